/-
  Own lemmas for walks over memory: states, blocks, maps, rows (no program in sight but the rules).
-/
import Derived.Test.YtdhopcnapgmhdaaGreatDoorZSm
import Derived.Lib.ConvBytes
set_option linter.unusedSimpArgs false
set_option linter.unusedVariables false
set_option linter.unusedSectionVars false
namespace Go.Sx
open Go.RowKit

/-! ### 9. Bytes; made slices; results in cells -/
section
variable {P : Program} {Q : Exit → Act → World → Prop} {K : Act → World → Prop} {F : Nat → Prop} {w0 w : World} {L L' : List It} {a : Act}
  {d : Option Tmp} {T ty T2 : TypeId} {x y z : Operand} {pos : String} {af : Array Edge} {g : Option (Nat × Bool)}

def byteV (b : UInt8) : Value := .int .u8 b.toNat
def bytesV (l : List UInt8) : List Value := l.map byteV

/-- A slice of bytes, of which the block holds more. -/
def bt (b : Nat) (l : List UInt8) (rest : List Value) (e : TypeId) (f : Nat × Nat) : It := cb b (bytesV l ++ rest) e f

/-- '[]byte(s)'. -/
theorem wp_str2bytes (S : St F w0 w L) {e bytes : Nat} [hs : TSh P T none] (hsu : P.underlying T = some .string) [hT : TSl P T2 e 1 bytes] (he : P.underlying e = some (.int .u8)) {s : ByteArray} (hx : a.eval x = .string s)
    (hk : ∀ b cap rest n w1, St F w0 w1 (bt b s.data.toList rest e (n, n + 1) :: L) → (bytesV s.data.toList ++ rest).length = n → s.size ≤ cap → K (a.put d (.slice (some ⟨b, 0, none⟩) s.size cap)) w1) :
    Oper.wp P ⟨d, .convert T T2 x, ty, pos, af, g⟩ a w K Q := by
  have hr := Lib.run_convert_string_bytes (P := P) w T T2 e s hsu hT.eq he
  have hc : (Lib.bytesCells w e s).toList = bytesV s.data.toList ++ List.replicate (grownCap w s.size 0 e - s.size) (Value.int .u8 0) := by
    simp [Lib.bytesCells, bytesV, byteV]
  have hat := Lib.bytesWorld_at_new w e s
  have hca : Lib.bytesCells w e s = (bytesV s.data.toList ++ List.replicate (grownCap w s.size 0 e - s.size) (Value.int .u8 0)).toArray := by rw [← hc]
  have hm : Mod Nil w (Lib.bytesWorld w e s) :=
    ⟨rfl, rfl, rfl, by rw [Lib.bytesWorld_size]; omega, ok_drawn hr, fun k hk _ => Lib.bytesWorld_at_old w e s k hk⟩
  refine wp_val (v := .slice (some ⟨w.heap.size, 0, none⟩) s.size (grownCap w s.size 0 e)) (w' := Lib.bytesWorld w e s) ?_ ?_
  · simp only [execOp, hx, Sem.run_bind, hr, Result.andThen_ok, Sem.run_pure]
  · refine hk w.heap.size _ (List.replicate (grownCap w s.size 0 e - s.size) (Value.int .u8 0)) (Lib.bytesCells w e s).size _ (S.cons hm ?_ (by simp [bt, cb, blk]) ?_) ?_ (grownCap_ge w s.size 0 e)
    · show (Lib.bytesWorld w e s).heap[w.heap.size]? = some _
      rw [hat, ← hca]
    · intro b hb
      have : b = w.heap.size := by simpa [bt, cb, blk] using hb
      subst this
      rw [Lib.bytesWorld_size]; omega
    · rw [hca]; simp

theorem byteV_getElem (l : List UInt8) (rest : List Value) (k : Nat) (h : k < l.length) : (bytesV l ++ rest)[k]? = some (.int .u8 (l[k].toNat)) := by
  rw [List.getElem?_append_left (by simpa [bytesV] using h)]
  simp [bytesV, byteV, h]
theorem byteV_set (l : List UInt8) (rest : List Value) (k : Nat) (b : UInt8) (h : k < l.length) : (bytesV l ++ rest).set k (.int .u8 (b.toNat : Int)) = bytesV (l.set k b) ++ rest := by
  rw [List.set_append_left _ _ (by simpa [bytesV] using h)]
  simp [bytesV, byteV, List.map_set]

/-- 'string(b)' of such a slice. -/
theorem run_b2s {b n c : Nat} {l : List UInt8} (hn : l.length = n) (hcell : ∀ j (h : j < l.length), w.cell? ⟨b, j, none⟩ = some (byteV l[j])) :
    (Conv.bytesToString (.slice (some ⟨b, 0, none⟩) n c)).run P w = .ok (.string ⟨l.toArray⟩) w := by
  subst hn
  have hl := run_loadCellsFrom (P := P) (w := w) (p := ⟨b, 0, none⟩) (bytesV l) 0 #[] (fun j v hv => by
    rw [add_plain, Nat.zero_add, Nat.zero_add]
    have hj : j < l.length := by
      rcases Nat.lt_or_ge j l.length with h | h
      · exact h
      · rw [List.getElem?_eq_none (by simpa [bytesV] using h)] at hv; cases hv
    rw [hcell j hj]
    simpa [bytesV, byteV, hj] using hv)
  have hm : (l.map fun b => (b.toNat : Int)).map (Value.int .u8) = bytesV l := by simp [bytesV, byteV]
  have := run_bytesToString (P := P) w ⟨b, 0, none⟩ l.length c (l.map fun b => (b.toNat : Int)) (by
    rw [hm]
    have e : (bytesV l).length = l.length := by simp [bytesV]
    rw [e] at hl
    simpa [loadCells] using hl)
  rw [this]
  congr 2
  have key : ∀ (m : List UInt8) (s : ByteArray), (m.map fun b => (b.toNat : Int)).foldl (fun r n => r.push (UInt8.ofNat n.toNat)) s = ⟨s.data ++ m.toArray⟩ := by
    intro m
    induction m with
    | nil => intro s; simp
    | cons u m ih =>
      intro s
      rw [List.map_cons, List.foldl_cons, ih]
      simp [ByteArray.push]
  rw [key]
  simp
theorem wp_bytes2str {e bytes : Nat} [hT : TSl P T e 1 bytes] (he : P.underlying e = some (.int .u8)) (hsu : P.underlying T2 = some .string) {b n c : Nat} {l : List UInt8} (hx : a.eval x = .slice (some ⟨b, 0, none⟩) n c)
    (hn : l.length = n) (hcell : ∀ j (h : j < l.length), w.cell? ⟨b, j, none⟩ = some (byteV l[j])) (hk : K (a.put d (.string ⟨l.toArray⟩)) w) : Oper.wp P ⟨d, .convert T T2 x, ty, pos, af, g⟩ a w K Q := by
  refine wp_val (v := .string ⟨l.toArray⟩) (w' := w) ?_ hk
  have := run_b2s (P := P) (c := c) hn hcell
  simp [execOp, hx, convert, run_underlying hT.eq, run_underlying hsu, run_underlying he, this]

/-- 'make([]T, n)'. -/
theorem wp_makeSlice (S : St F w0 w L) {e : TypeId} {size bytes : Nat} [ht : TSl P T e size bytes] {zv : Value} [hz : TZ P e zv] {zs : List Value} (hzs : zv.cells = zs.toArray) {kl kc : IntKind} {n : Nat}
    (hx : a.eval x = .int kl n) (hy : a.eval y = .int kc n) (hb : bytes * n ≤ 281474976710656) (hn : n ≤ 9223372036854775807)
    (hk : ∀ b w1, St F w0 w1 (cb b (List.replicate n zs).flatten e :: L) → K (a.put d (.slice (some ⟨b, 0, none⟩) n n)) w1) : Oper.wp P ⟨d, .makeSlice T x y, ty, pos, af, g⟩ a w K Q := by
  obtain ⟨i, hi, rfl, rfl, z', hz', hzz⟩ := ht.info
  have e1 : z' = zv := by
    have := hz.eq
    rw [hi] at this
    simp only [Option.bind_some, hz', Option.some.injEq] at this
    exact this
  subst e1
  have hr := run_make (P := P) w T e i z' ht.eq hi hz' kl kc n n (by omega) (Int.le_refl _) (by omega) (by omega)
  simp only [Int.toNat_natCast] at hr
  have hzl : zs.length = i.size := by rw [← hzz, hzs]; simp
  have hcells : madeCells z'.cells (n * i.size) = (List.replicate n zs).flatten.toArray := by
    rw [hzs, ← hzl]
    apply Array.ext_getElem?
    intro j
    have hpos : 0 < zs.length := hzl ▸ ht.pos
    simp only [madeCells, Array.getElem?_map, List.getElem?_toArray]
    by_cases hj : j < n * zs.length
    · have h1 : (Array.range (n * zs.length))[j]? = some j := by simp [hj]
      rw [h1]
      have hm : j % zs.length < zs.length := Nat.mod_lt _ hpos
      have : ∀ (m j : Nat), j < m * zs.length → (List.replicate m zs).flatten[j]? = some (zs[j % zs.length]'(Nat.mod_lt _ hpos)) := by
        intro m
        induction m with
        | zero => intro j hj; simp at hj
        | succ m ih =>
          intro j hj
          rw [List.replicate_succ, List.flatten_cons]
          rcases Nat.lt_or_ge j zs.length with h | h
          · rw [List.getElem?_append_left h]
            have : j % zs.length = j := Nat.mod_eq_of_lt h
            simp [this, h]
          · rw [List.getElem?_append_right h, ih (j - zs.length) (by rw [Nat.add_mul] at hj; omega)]
            have : (j - zs.length) % zs.length = j % zs.length := by
              rw [← Nat.mod_eq_sub_mod h]
            simp [this]
      rw [this n j hj]
      simp [hm]
    · have h1 : (Array.range (n * zs.length))[j]? = none := by simp [Nat.not_lt.1 hj]
      rw [h1, List.getElem?_eq_none (by simp; omega)]
      rfl
  rw [hcells] at hr
  refine wp_val (v := .slice (some ⟨w.heap.size, 0, none⟩) n n) (w' := w.alloc (.cells (List.replicate n zs).flatten.toArray e)) ?_ (hk _ _ (S.alloc _))
  simp only [execOp, hx, hy, Sem.run_bind, hr, Result.andThen_ok, Sem.run_pure]

/-- '&s[i]'. -/
theorem wp_indexAddr {e : TypeId} {size bytes : Nat} [ht : TSl P T e size bytes] {b off n c q : Nat} {k : IntKind} {i : Int} (hx : a.eval x = .slice (some ⟨b, off, none⟩) n c) (hy : a.eval y = .int k i) (h0 : 0 ≤ i) (h1 : i < n)
    (hq : off + i.toNat * size = q) (hk : K (a.put d (.pointer (some ⟨b, q, none⟩))) w) : Oper.wp P ⟨d, .indexAddr T x y, ty, pos, af, g⟩ a w K Q := by
  obtain ⟨j, hj, rfl, _⟩ := ht.info
  refine wp_val (v := .pointer (some ⟨b, q, none⟩)) (w' := w) ?_ hk
  have hand : 0 ≤ i ∧ i < (n : Int) := ⟨h0, h1⟩
  simp [execOp, hx, hy, Instr.indexAt, asIntOf, run_underlying ht.eq, hand, sizeOf, typeInfo, hj, add_plain, hq]

/-- What a function hands back lies in a cell of its own. -/
theorem post_cell {fn : Func} {R : Ending → World → Prop} (S : St F w0 w L) {t b : Nat} {T : TypeId} {cs : List Value} {T' : TypeId} {n : Nat} (hr : fn.results = #[.cell t T]) (ht : a.tmps.getD t undef = .pointer (some ⟨b, 0, none⟩)) (hm : Has L (cb b cs T'))
    [hs : TSh P T (some n)] (hn : cs.length = n) (hd : a.defers = []) (hR : R (.returned (.agg cs.toArray)) w) : bodyPost P fn R .ret a w := by
  refine bodyPost_ret (v := .agg cs.toArray) ?_ hd hR
  subst hn
  have := run_loadVar_many (P := P) (w := w) (t := T) (b := b) (off := 0) hs.eq (fun j v hv => cell_of (S.cb hm) (by rw [Nat.zero_add]; exact hv))
  have ht' : a.tmps[t]?.getD undef = .pointer (some ⟨b, 0, none⟩) := by simpa using ht
  simp [results, hr, ht', asAddr, this]
theorem post_cell2 {fn : Func} {R : Ending → World → Prop} (S : St F w0 w L) {t u b : Nat} {T : TypeId} {cs : List Value} {T' : TypeId} {n : Nat} {v : Value} (hr : fn.results = #[.cell t T, .tmp u]) (ht : a.tmps.getD t undef = .pointer (some ⟨b, 0, none⟩)) (hu : a.tmps.getD u undef = v) (hm : Has L (cb b cs T'))
    [hs : TSh P T (some n)] (hn : cs.length = n) (hd : a.defers = []) (hR : R (.returned (.tuple #[.agg cs.toArray, v])) w) : bodyPost P fn R .ret a w := by
  refine bodyPost_ret (v := .tuple #[.agg cs.toArray, v]) ?_ hd hR
  subst hn
  have := run_loadVar_many (P := P) (w := w) (t := T) (b := b) (off := 0) hs.eq (fun j v hv => cell_of (S.cb hm) (by rw [Nat.zero_add]; exact hv))
  have ht' : a.tmps[t]?.getD undef = .pointer (some ⟨b, 0, none⟩) := by simpa using ht
  have hu' : a.tmps[u]?.getD undef = v := by simpa using hu
  simp [results, hr, ht', hu', asAddr, this]
end
end Go.Sx
