/-
  Own lemmas for walks over memory: states, blocks, maps, rows (no program in sight but the rules).
-/
import Derived.Test.YtdhopcnapgmhdaaGreatDoorZSa
set_option linter.unusedSimpArgs false
set_option linter.unusedVariables false
set_option linter.unusedSectionVars false
namespace Go.Sx
open Go.RowKit

/-! ### 8. Maps with plain keys -/
section
variable {P : Program} {w : World}

theorem bytes_beq (a b : ByteArray) : (a == b) = true ↔ a = b := by
  rw [beq_toListBytes, beq_iff_eq, ByteArray.toList_eq, ByteArray.toList_eq]
  constructor
  · intro h
    cases a; cases b
    simp only [ByteArray.mk.injEq]
    exact Array.ext' h
  · rintro rfl; rfl
theorem eqVal_iff {x y : Value} {k : Kd} (hx : kdOf x = some k) (hy : kdOf y = some k) : eqVal x y = true ↔ x = y := by
  rcases k with k | b
  · obtain ⟨a, rfl⟩ := kd_int hx
    obtain ⟨b, rfl⟩ := kd_int hy
    simp [eqVal]
  · cases b
    · obtain ⟨a, rfl⟩ := kd_string hx
      obtain ⟨b, rfl⟩ := kd_string hy
      simp only [eqVal, ← beq_toListBytes, bytes_beq, Value.string.injEq]
    · obtain ⟨a, rfl⟩ := kd_bool hx
      obtain ⟨b, rfl⟩ := kd_bool hy
      simp [eqVal]
theorem eqCells_iff : ∀ {xs ys : List Value} {ks : List Kd}, xs.map kdOf = ks.map some → ys.map kdOf = ks.map some → (eqCells xs ys = true ↔ xs = ys)
  | [], [], _, _, _ => by simp [eqCells]
  | [], _ :: _, ks, hx, hy => by cases ks <;> simp_all
  | _ :: _, [], ks, hx, hy => by cases ks <;> simp_all
  | x :: xs, y :: ys, ks, hx, hy => by
    cases ks with
    | nil => simp at hx
    | cons k ks =>
      simp only [List.map_cons, List.cons.injEq] at hx hy
      simp only [eqCells, Bool.and_eq_true, eqVal_iff hx.1 hy.1, eqCells_iff hx.2 hy.2, List.cons.injEq]

theorem sameBits_plain (n : Nat) {x : Value} {k : Kd} (hx : kdOf x = some k) : Instr.sameBits n x x = true := by
  rcases k with k | b
  · obtain ⟨a, rfl⟩ := kd_int hx; cases n <;> simp [Instr.sameBits]
  · cases b
    · obtain ⟨a, rfl⟩ := kd_string hx; cases n <;> simp [Instr.sameBits, bytes_beq]
    · obtain ⟨a, rfl⟩ := kd_bool hx; cases n <;> simp [Instr.sameBits]
theorem sameBits_agg (n : Nat) : ∀ {xs : List Value} {ks : List Kd}, xs.map kdOf = ks.map some → Instr.sameBits (n + 1) (.agg xs.toArray) (.agg xs.toArray) = true := by
  intro xs ks h
  simp only [Instr.sameBits, BEq.rfl, Bool.true_and]
  rw [List.all_eq_true]
  rintro ⟨x, y⟩ hxy
  have hxy' : x = y ∧ x ∈ xs := by
    clear h
    induction xs with
    | nil => simp at hxy
    | cons a xs ih =>
      simp only [List.zip_cons_cons, List.mem_cons, Prod.mk.injEq] at hxy
      rcases hxy with ⟨rfl, rfl⟩ | h
      · simp
      · exact ⟨(ih h).1, by simp [(ih h).2]⟩
  obtain ⟨rfl, hm⟩ := hxy'
  have : kdOf x ∈ xs.map kdOf := List.mem_map_of_mem hm
  rw [h] at this
  obtain ⟨k, _, hk⟩ := List.mem_map.1 this
  exact sameBits_plain n hk.symm

/-! #### 'checkKey' -/
theorem run_checkKey_plain (n : Nat) : (∀ (t : TypeId) (ks : List Kd) (xs : List Value) (d : Nat) (b : Bool) (w : World), kindsOf P n t = some ks → n ≤ d → xs.map kdOf = ks.map some →
      (Instr.checkKey b d t (pv P t xs)).run P w = .ok () w) ∧
    (∀ (off : Nat) (fs : List Field) (ks : List Kd) (xs : List Value) (d : Nat) (b : Bool) (w : World), kindsOfs P n off fs = some ks → n ≤ d + 1 → (xs.drop off).map kdOf = ks.map some →
      ((forIn fs PUnit.unit fun f _ =>
            if f.name ≠ "_" then (do
              let x ← part f.type xs.toArray f.offset
              Instr.checkKey b d f.type x
              pure (ForInStep.yield PUnit.unit))
            else pure (ForInStep.yield PUnit.unit)) : Sem PUnit).run P w = .ok PUnit.unit w) := by
  induction n with
  | zero => exact ⟨fun _ _ _ _ _ _ h => by simp [kindsOf] at h, fun _ _ _ _ _ _ _ h => by simp [kindsOfs] at h⟩
  | succ n ih =>
    constructor
    · intro t ks xs d b w h hd hx
      obtain ⟨d, rfl⟩ : ∃ e, d = e + 1 := ⟨d - 1, by omega⟩
      simp only [kindsOf] at h
      split at h
      · rename_i k hu
        cases h
        obtain ⟨x, rfl, kx⟩ := kd_one hx
        obtain ⟨a, rfl⟩ := kd_int kx
        simp [pv, hu, Instr.checkKey, run_underlying hu]
      · rename_i hu
        cases h
        obtain ⟨x, rfl, kx⟩ := kd_one hx
        obtain ⟨a, rfl⟩ := kd_string kx
        simp [pv, hu, Instr.checkKey, run_underlying hu]
      · rename_i hu
        cases h
        obtain ⟨x, rfl, kx⟩ := kd_one hx
        obtain ⟨a, rfl⟩ := kd_bool kx
        simp [pv, hu, Instr.checkKey, run_underlying hu]
      · rename_i fs hu
        split at h
        · cases h
        · split at h
          · rename_i ks' hks
            split at h
            · cases h
              have := ih.2 0 fs.toList ks xs d b w hks (by omega) (by simpa using hx)
              simp only [pv, hu, Instr.checkKey, Sem.run_bind, run_underlying hu, Result.andThen_ok]
              rw [← Array.forIn_toList, this]
              simp
            · cases h
          · cases h
      · cases h
    · intro off fs ks xs d b w h hd hx
      cases fs with
      | nil => simp
      | cons f fs =>
        simp only [kindsOfs] at h
        split at h
        · cases h
        · rename_i hnm
          have hnm : f.name ≠ "_" ∧ f.offset = off := by
            constructor
            · intro e; exact hnm (.inl e)
            · rcases Nat.decEq f.offset off with e | e
              · exact absurd (.inr e) hnm
              · exact e
          split at h
          · rename_i k1 hk1
            obtain ⟨k2, hk2, rfl⟩ := Option.map_eq_some_iff.1 h
            have hx1 : ((xs.drop off).take k1.length).map kdOf = k1.map some := by
              rw [List.map_take, hx, List.map_append, List.take_left' (by simp)]
            have hx2 : (xs.drop (off + k1.length)).map kdOf = k2.map some := by
              rw [← List.drop_drop, List.map_drop, hx, List.map_append, List.drop_left' (by simp)]
            have e1 := ih.1 f.type k1 _ d b w hk1 (by omega) hx1
            have e2 := ih.2 (off + k1.length) fs k2 xs d b w hk2 (by omega) hx2
            simp only [List.forIn_cons, Sem.run_bind, if_pos hnm.1, hnm.2, run_part (w := w) hk1 hx1, Result.andThen_ok, e1, Sem.run_pure]
            exact e2
          · cases h

theorem pv_agg {T : TypeId} {ks : List Kd} (h : TK P T ks) (zs : List Value) : pv P T zs = .agg zs.toArray := by
  have := h.agg
  unfold pv
  split at this
  · rfl
  · cases this
theorem run_checkKey {T : TypeId} {ks : List Kd} [h : TK P T ks] {xs : List Value} (hx : xs.map kdOf = ks.map some) (b : Bool) : (Instr.checkKey b 10000 T (.agg xs.toArray)).run P w = .ok () w := by
  rw [← pv_agg h]
  exact (run_checkKey_plain (P := P) 20).1 T ks xs 10000 b w h.eq (by decide) hx

/-! #### Entries: a key of type κ, told by its cells; a value; when it came -/
structure Enc (κ : Type) where
  f : κ → List Value
  ks : List Kd
  ok : ∀ a, (f a).map kdOf = ks.map some
  inj : ∀ a b, f a = f b → a = b

variable {κ : Type} [DecidableEq κ] {ν : Type}
def ent (E : Enc κ) (ev : ν → Value) (e : κ × ν × Nat) : MapEntry := { key := .agg (E.f e.1).toArray, val := ev e.2.1, born := e.2.2 }
def ents (E : Enc κ) (ev : ν → Value) (l : List (κ × ν × Nat)) : Array MapEntry := (l.map (ent E ev)).toArray

theorem enc_eq (E : Enc κ) (a b : κ) : eqCells (E.f a) (E.f b) = decide (a = b) := by
  rw [Bool.eq_iff_iff, eqCells_iff (E.ok a) (E.ok b), decide_eq_true_eq]
  exact ⟨E.inj a b, fun h => h ▸ rfl⟩

/-- The first entry of a key, and its place. -/
def findI (k : κ) : List (κ × ν × Nat) → Nat → Option (Nat × ν)
  | [], _ => none
  | e :: es, i => if e.1 = k then some (i, e.2.1) else findI k es (i + 1)

theorem run_findAsking {T : TypeId} (E : Enc κ) [h : TK P T E.ks] (ev : ν → Value) (k : κ) : ∀ (l : List (κ × ν × Nat)) (i : Nat),
    (Instr.findAsking T (.agg (E.f k).toArray) (l.map (ent E ev)) i).run P w = .ok ((findI k l i).map fun x => (x.1, ev x.2)) w := by
  intro l
  induction l with
  | nil => intro i; simp [Instr.findAsking, findI]
  | cons e l ih =>
    intro i
    have he : (Op.equal T (.agg (E.f k).toArray) (.agg (E.f e.1).toArray)).run P w = .ok (decide (k = e.1)) w := by
      rw [run_eq_plain (E.ok k) (E.ok e.1), enc_eq]
    simp only [List.map_cons, Instr.findAsking, findI, ent, Sem.run_bind, he, Result.andThen_ok]
    by_cases hk : e.1 = k
    · subst hk; simp
    · have hk' : ¬ k = e.1 := fun h => hk h.symm
      simp only [hk, hk', if_false, decide_false, Bool.false_eq_true]
      exact ih (i + 1)

theorem run_findKey {T : TypeId} (E : Enc κ) [h : TK P T E.ks] (ev : ν → Value) (k : κ) (l : List (κ × ν × Nat)) :
    (Instr.findKey T (.agg (E.f k).toArray) (ents E ev l).toList).run P w = .ok ((findI k l 0).map fun x => (x.1, ev x.2)) w := by
  have hs := h.agg
  cases hu : P.underlying T with
  | none => simp [hu] at hs
  | some u =>
    have hf := run_findAsking (P := P) (T := T) (w := w) E ev k l 0
    have hn : Instr.findNow u (.agg (E.f k).toArray) (l.map (ent E ev)) 0 = none ∨ Instr.findNow u (.agg (E.f k).toArray) (l.map (ent E ev)) 0 = some none ∧ l = [] := by
      cases l with
      | nil => exact .inr ⟨rfl, rfl⟩
      | cons e l => left; cases u <;> simp [hu] at hs <;> simp [Instr.findNow, Instr.sameNow]
    simp only [Instr.findKey, Sem.run_bind, run_underlying hu, Result.andThen_ok, ents]
    rcases hn with hn | ⟨hn, rfl⟩
    · simp only [hn]; exact hf
    · simp only [hn]; simp [findI]

/-- What a key holds. -/
def mget (k : κ) (l : List (κ × ν × Nat)) : Option ν := (l.find? (fun e => e.1 == k)).map (·.2.1)
theorem findI_get (k : κ) : ∀ (l : List (κ × ν × Nat)) (i : Nat), (findI k l i).map (·.2) = mget k l := by
  intro l
  induction l with
  | nil => intro i; rfl
  | cons e l ih =>
    intro i
    by_cases hk : e.1 = k
    · simp [findI, mget, hk]
    · have : (e.1 == k) = false := by simpa using hk
      simp only [findI, hk, if_false, mget, List.find?_cons, this]
      exact ih (i + 1)
/-- A key is given a value. -/
def mput (k : κ) (v : ν) (c : Nat) (l : List (κ × ν × Nat)) : List (κ × ν × Nat) :=
  if (mget k l).isSome then l.map (fun e => if e.1 = k then (e.1, v, e.2.2) else e) else l ++ [(k, v, c)]
/-- A key is taken away. -/
def mdel (k : κ) (l : List (κ × ν × Nat)) : List (κ × ν × Nat) := l.filter fun e => !(e.1 == k)
/-- Each key once, each time once, all before now. -/
structure WF (l : List (κ × ν × Nat)) (c : Nat) : Prop where
  keys : (l.map (·.1)).Nodup
  born : (l.map (·.2.2)).Nodup
  lt : ∀ e ∈ l, e.2.2 < c

theorem findI_spec (k : κ) : ∀ (l : List (κ × ν × Nat)) (i : Nat), (l.map (·.1)).Nodup → match findI k l i with
    | none => ∀ e ∈ l, e.1 ≠ k
    | some (j, v) => ∃ A b B, l = A ++ (k, v, b) :: B ∧ j = i + A.length ∧ (∀ e ∈ A, e.1 ≠ k) ∧ ∀ e ∈ B, e.1 ≠ k := by
  intro l
  induction l with
  | nil => intro i _; simp [findI]
  | cons e l ih =>
    intro i hn
    rw [List.map_cons, List.nodup_cons] at hn
    by_cases hk : e.1 = k
    · simp only [findI, hk, if_true]
      refine ⟨[], e.2.2, l, by rw [← hk]; rfl, rfl, by simp, fun x hx he => hn.1 (List.mem_map.2 ⟨x, hx, he.trans hk.symm⟩)⟩
    · simp only [findI, hk, if_false]
      have := ih (i + 1) hn.2
      split at this
      · intro x hx
        rcases List.mem_cons.1 hx with rfl | hx
        · exact hk
        · exact this x hx
      · obtain ⟨A, b, B, rfl, rfl, hA, hB⟩ := this
        refine ⟨e :: A, b, B, rfl, by simp; omega, fun x hx => ?_, hB⟩
        rcases List.mem_cons.1 hx with rfl | hx
        · exact hk
        · exact hA x hx

variable {Q : Exit → Act → World → Prop} {K : Act → World → Prop} {F : Nat → Prop} {w0 : World} {L L' : List It} {a : Act}
  {d : Option Tmp} {T ty T2 : TypeId} {x y z : Operand} {pos : String} {af : Array Edge} {g : Option (Nat × Bool)}

/-- A map type: its key, its element. -/
class TM (P : Program) (t : TypeId) (k e : outParam TypeId) : Prop where
  eq : P.underlying t = some (.map k e)

/-- A map's block. -/
def mp (E : Enc κ) (ev : ν → Value) (r : Nat) (l : List (κ × ν × Nat)) (c : Nat) : It := blk r (.map (ents E ev l) c)

theorem run_getObj {r : Nat} {o : Obj} (h : w.heap[r]? = some o) (hn : ∀ c e f, o ≠ .cells c e f) : (getObj r).run P w = .ok o w := by
  unfold getObj
  rw [Sem.run, h]
  cases o <;> first | rfl | exact absurd rfl (hn _ _ _)
theorem run_setObj {r : Nat} {o o' : Obj} (h : w.heap[r]? = some o) (hn : ∀ c e f, o ≠ .cells c e f) : (setObj r o').run P w = .ok () (World.putObj w r o') := by
  unfold setObj
  rw [Sem.run, h]
  cases o <;> first | rfl | exact absurd rfl (hn _ _ _)

theorem wp_makeMap (S : St F w0 w L) (E : Enc κ) (ev : ν → Value) (hk : ∀ r w1, St F w0 w1 (mp E ev r [] 0 :: L) → K (a.put d (.map (some r))) w1) : Oper.wp P ⟨d, .makeMap T none, ty, pos, af, g⟩ a w K Q := by
  refine wp_val (v := .map (some w.heap.size)) (w' := w.alloc (.map #[] 0)) ?_ (hk _ _ (S.alloc _))
  simp [execOp, run_makeMap]

theorem run_lookup {kT eT : TypeId} [hT : TM P T kT eT] (E : Enc κ) [h : TK P kT E.ks] (ev : ν → Value) {r c : Nat} {l : List (κ × ν × Nat)} {zv : Value} [hz : TZ P eT zv] (hm : w.heap[r]? = some (.map (ents E ev l) c)) (k : κ) (ok : Bool) :
    (Instr.lookup T (.map (some r)) (.agg (E.f k).toArray) ok).run P w = .ok (if ok then .tuple #[((mget k l).map ev).getD zv, .bool (mget k l).isSome] else ((mget k l).map ev).getD zv) w := by
  have hg := run_getObj (P := P) hm (by simp)
  have hck := run_checkKey (P := P) (w := w) (T := kT) (E.ok k) (ents E ev l).isEmpty
  have hf := run_findKey (P := P) (w := w) (T := kT) E ev k l
  have hgt := findI_get k l 0
  obtain ⟨i, hi, hzz⟩ := Option.bind_eq_some_iff.1 hz.eq
  have hzv : (zeroValue eT).run P w = .ok zv w := by simp [zeroValue, typeInfo, hi, hzz]
  simp only [Instr.lookup, Sem.run_bind, run_underlying hT.eq, Result.andThen_ok, hg, Sem.run_pure, hck, hf]
  cases hfi : findI k l 0 with
  | none =>
    rw [hfi] at hgt
    have : mget k l = none := by simpa using hgt.symm
    simp [hzv, this]
  | some x =>
    rw [hfi] at hgt
    have : mget k l = some x.2 := by simpa using hgt.symm
    simp [this]

theorem wp_lookup2 (S : St F w0 w L) {kT eT : TypeId} [hT : TM P T kT eT] {E : Enc κ} [h : TK P kT E.ks] {ev : ν → Value} {r c : Nat} {l : List (κ × ν × Nat)} {zv : Value} [hz : TZ P eT zv] (k : κ)
    (hx : a.eval x = .map (some r)) (hy : a.eval y = .agg (E.f k).toArray) (hm : Has L (mp E ev r l c))
    (hk : K (a.put d (.tuple #[((mget k l).map ev).getD zv, .bool (mget k l).isSome])) w) : Oper.wp P ⟨d, .lookup T x y true, ty, pos, af, g⟩ a w K Q := by
  refine wp_val (v := .tuple #[((mget k l).map ev).getD zv, .bool (mget k l).isSome]) (w' := w) ?_ hk
  have := run_lookup (P := P) (w := w) (T := T) E ev (S.get hm) k true
  simp only [execOp, hx, hy, Sem.run_bind, this, Result.andThen_ok, Sem.run_pure, if_true]

theorem run_mapUpdate {kT eT : TypeId} [hT : TM P T kT eT] (E : Enc κ) [h : TK P kT E.ks] (ev : ν → Value) {r c : Nat} {l : List (κ × ν × Nat)} (hwf : WF l c) (hm : w.heap[r]? = some (.map (ents E ev l) c)) (k : κ) (v : ν) :
    ∃ c', (Instr.mapUpdate T (.map (some r)) (.agg (E.f k).toArray) (ev v)).run P w = .ok () (World.putObj w r (.map (ents E ev (mput k v c l)) c')) ∧ WF (mput k v c l) c' ∧ c ≤ c' := by
  have hg := run_getObj (P := P) hm (by simp)
  have hck := run_checkKey (P := P) (w := w) (T := kT) (E.ok k) false
  have hf := run_findKey (P := P) (w := w) (T := kT) E ev k l
  have hgt := findI_get k l 0
  have hsp := findI_spec k l 0 hwf.keys
  simp only [Instr.mapUpdate, Sem.run_bind, run_underlying hT.eq, Result.andThen_ok, hg, hck, hf]
  cases hfi : findI k l 0 with
  | none =>
    rw [hfi] at hgt hsp
    have hnone : mget k l = none := by simpa using hgt.symm
    have hput : mput k v c l = l ++ [(k, v, c)] := by simp [mput, hnone]
    refine ⟨c + 1, ?_, ?_, Nat.le_succ c⟩
    · simp only [Option.map_none, run_setObj (P := P) hm (by simp), hput]
      simp [ents, ent]
    · rw [hput]
      refine ⟨?_, ?_, ?_⟩
      · simp only [List.map_append, List.map_cons, List.map_nil, List.nodup_append, List.nodup_cons, List.not_mem_nil, not_false_eq_true, List.nodup_nil, and_self, true_and]
        refine ⟨hwf.keys, fun x hx y hy => ?_⟩
        obtain ⟨e, he, rfl⟩ := List.mem_map.1 hx
        simp only [List.mem_singleton] at hy
        subst hy
        exact hsp e he
      · simp only [List.map_append, List.map_cons, List.map_nil, List.nodup_append, List.nodup_cons, List.not_mem_nil, not_false_eq_true, List.nodup_nil, and_self, true_and]
        refine ⟨hwf.born, fun x hx y hy => ?_⟩
        obtain ⟨e, he, rfl⟩ := List.mem_map.1 hx
        simp only [List.mem_singleton] at hy
        subst hy
        have := hwf.lt e he
        omega
      · intro e he
        rcases List.mem_append.1 he with he | he
        · have := hwf.lt e he; omega
        · simp only [List.mem_singleton] at he; subst he; simp
  | some q =>
    obtain ⟨j, u⟩ := q
    rw [hfi] at hgt hsp
    have hsome : (mget k l).isSome = true := by rw [← hgt]; rfl
    obtain ⟨A, b, B, rfl, rfl, hA, hB⟩ := hsp
    have hmA : ∀ M : List (κ × ν × Nat), (∀ e ∈ M, e.1 ≠ k) → M.map (fun e => if e.1 = k then (e.1, v, e.2.2) else e) = M := by
      intro M hM
      conv => rhs; rw [← List.map_id M]
      apply List.map_congr_left
      intro e he
      simp [hM e he]
    have hput : mput k v c (A ++ (k, u, b) :: B) = A ++ (k, v, b) :: B := by
      simp only [mput, hsome, if_true, List.map_append, List.map_cons, hmA A hA, hmA B hB]
    refine ⟨c, ?_, ?_, Nat.le_refl c⟩
    · have hkey : ((ents E ev (A ++ (k, u, b) :: B))[0 + A.length]?.map (·.key)).getD (.agg (E.f k).toArray) = .agg (E.f k).toArray := by
        simp [ents, ent]
      have hstay : (Instr.keyThatStays (.agg (E.f k).toArray) (.agg (E.f k).toArray)).run P w = .ok (.agg (E.f k).toArray) w := by
        simp only [Instr.keyThatStays, sameBits_agg 9999 (E.ok k), if_true, Sem.run_pure]
      simp only [Option.map_some, hkey, Sem.run_bind, hstay, Result.andThen_ok, run_setObj (P := P) hm (by simp), hput]
      congr 2
      simp only [ents, ent, List.map_append, List.map_cons]
      congr 1
      apply Array.ext_getElem?
      intro i
      rw [Array.getElem?_modify]
      simp only [List.getElem?_toArray]
      by_cases hi : A.length = i
      · subst hi; simp
      · simp only [Nat.zero_add, hi, if_false]
        rcases Nat.lt_or_ge i A.length with h1 | h1
        · rw [List.getElem?_append_left (by simpa using h1), List.getElem?_append_left (by simpa using h1)]
        · rw [List.getElem?_append_right (by simpa using h1), List.getElem?_append_right (by simpa using h1)]
          simp only [List.length_map]
          obtain ⟨m, hm'⟩ : ∃ m, i - A.length = m + 1 := ⟨i - A.length - 1, by omega⟩
          rw [hm']; simp
    · rw [hput]
      refine ⟨by simpa using hwf.keys, by simpa using hwf.born, fun e he => ?_⟩
      rcases List.mem_append.1 he with he | he
      · exact hwf.lt e (by simp [he])
      · rcases List.mem_cons.1 he with rfl | he
        · exact hwf.lt (k, u, b) (by simp)
        · exact hwf.lt e (by simp [he])

theorem wp_mapUpdate (S : St F w0 w L) {kT eT : TypeId} [hT : TM P T kT eT] {E : Enc κ} [h : TK P kT E.ks] {ev : ν → Value} {r c : Nat} {l : List (κ × ν × Nat)} (k : κ) (v : ν)
    (hx : a.eval x = .map (some r)) (hy : a.eval y = .agg (E.f k).toArray) (hz : a.eval z = ev v) (hm : Out L (mp E ev r l c) L') (hwf : WF l c)
    (hk : ∀ c' w1, St F w0 w1 (mp E ev r (mput k v c l) c' :: L') → WF (mput k v c l) c' → c ≤ c' → K (a.put d undef) w1) : Oper.wp P ⟨d, .mapUpdate T x y z, ty, pos, af, g⟩ a w K Q := by
  have hb : w.heap[r]? = some (.map (ents E ev l) c) := S.out hm
  obtain ⟨c', hr, hwf', hc⟩ := run_mapUpdate (P := P) (w := w) (T := T) E ev hwf hb k v
  refine wp_unit (w' := World.putObj w r (.map (ents E ev (mput k v c l)) c')) ?_ (hk c' _ (S.turn hm (putObj_mod w r _) (putObj_at hb) (by simp [mp, blk]) (fun i hi => .inl hi)) hwf' hc)
  simp only [execOp, hx, hy, hz, Sem.run_bind, hr, Result.andThen_ok, Sem.run_pure]


theorem wp_delete (S : St F w0 w L) {kT eT T2 : TypeId} [hT : TM P T kT eT] {E : Enc κ} [h : TK P kT E.ks] {ev : ν → Value} {r c : Nat} {l : List (κ × ν × Nat)} (k : κ)
    (hx : a.eval x = .map (some r)) (hy : a.eval y = .agg (E.f k).toArray) (hm : Out L (mp E ev r l c) L') (hwf : WF l c)
    (hk : ∀ w1, St F w0 w1 (mp E ev r (mdel k l) c :: L') → WF (mdel k l) c → K (a.put d (.tuple #[])) w1) : Oper.wp P ⟨d, .call ⟨.builtin .delete, #[x, y], #[T, T2]⟩, ty, pos, af, g⟩ a w K Q := by
  have hb : w.heap[r]? = some (.map (ents E ev l) c) := S.out hm
  have hg := run_getObj (P := P) hb (by simp)
  have hck := run_checkKey (P := P) (w := w) (T := kT) (E.ok k) (ents E ev l).isEmpty
  have hf := run_findKey (P := P) (w := w) (T := kT) E ev k l
  have hsp := findI_spec k l 0 hwf.keys
  have hrun : (Builtin.delete_ #[T, T2] ty #[.map (some r), .agg (E.f k).toArray]).run P w = .ok (.tuple #[]) (World.putObj w r (.map (ents E ev (mdel k l)) c)) := by
    simp only [Builtin.delete_, List.getElem?_toArray, List.getElem?_cons_zero, List.getElem?_cons_succ, Sem.run_bind, run_underlying hT.eq, Result.andThen_ok, hg, hck, hf]
    cases hfi : findI k l 0 with
    | none =>
      rw [hfi] at hsp
      have hd : mdel k l = l := by
        simp only [mdel, List.filter_eq_self]
        intro e he
        simpa using hsp e he
      simp [run_setObj (P := P) hb, hd]
    | some q =>
      obtain ⟨j, u⟩ := q
      rw [hfi] at hsp
      obtain ⟨A, b, B, rfl, rfl, hA, hB⟩ := hsp
      have hd : mdel k (A ++ (k, u, b) :: B) = A ++ B := by
        simp only [mdel, List.filter_append, List.filter_cons, BEq.rfl, Bool.not_true, Bool.false_eq_true, if_false]
        rw [List.filter_eq_self.2 (fun e he => by simpa using hA e he), List.filter_eq_self.2 (fun e he => by simpa using hB e he)]
      have he : (ents E ev (A ++ (k, u, b) :: B)).eraseIdxIfInBounds (0 + A.length) = ents E ev (A ++ B) := by
        simp only [ents, List.map_append, List.map_cons, Nat.zero_add]
        apply Array.ext'
        simp [List.eraseIdx_append_of_length_le]
      simp only [Option.map_some, he, run_setObj (P := P) hb (by simp), hd, Sem.run_bind, Result.andThen_ok, Sem.run_pure]
  have hwf' : WF (mdel k l) c :=
    ⟨hwf.keys.sublist (List.Sublist.map _ List.filter_sublist), hwf.born.sublist (List.Sublist.map _ List.filter_sublist), fun e he => hwf.lt e ((List.mem_filter.1 he).1)⟩
  refine wp_val (v := .tuple #[]) (w' := World.putObj w r (.map (ents E ev (mdel k l)) c)) ?_ (hk _ (S.turn hm (putObj_mod w r _) (putObj_at hb) (by simp [mp, blk]) (fun i hi => .inl hi)) hwf')
  unfold execOp
  simp only [resolve, invoke, builtin, Sem.run_bind, Sem.run_pure, Result.andThen_ok, List.map_toArray, List.map_cons, List.map_nil, hx, hy, hrun]

theorem wp_clear (S : St F w0 w L) {E : Enc κ} {ev : ν → Value} {r c : Nat} {l : List (κ × ν × Nat)} {kT eT : TypeId} [hT : TM P T kT eT]
    (hx : a.eval x = .map (some r)) (hm : Out L (mp E ev r l c) L')
    (hk : ∀ w1, St F w0 w1 (mp E ev r [] c :: L') → K (a.put d (.tuple #[])) w1) : Oper.wp P ⟨d, .call ⟨.builtin .clear, #[x], #[T]⟩, ty, pos, af, g⟩ a w K Q := by
  have hb : w.heap[r]? = some (.map (ents E ev l) c) := S.out hm
  have hg := run_getObj (P := P) hb (by simp)
  refine wp_val (v := .tuple #[]) (w' := World.putObj w r (.map (ents E ev []) c)) ?_ (hk _ (S.turn hm (putObj_mod w r _) (putObj_at hb) (by simp [mp, blk]) (fun i hi => .inl hi)))
  unfold execOp
  simp only [resolve, invoke, builtin, Builtin.clear_, List.getElem?_toArray, List.getElem?_cons_zero, Sem.run_bind, Sem.run_pure, Result.andThen_ok, List.map_toArray, List.map_cons, List.map_nil, hx, run_underlying hT.eq, hg, run_setObj (P := P) hb (by simp)]
  rfl

theorem wp_lenMap (S : St F w0 w L) {E : Enc κ} {ev : ν → Value} {r c : Nat} {l : List (κ × ν × Nat)} {kT eT : TypeId} [hT : TM P T kT eT]
    (hx : a.eval x = .map (some r)) (hm : Has L (mp E ev r l c)) (hk : K (a.put d (.int .i64 l.length)) w) : Oper.wp P ⟨d, .call ⟨.builtin .len, #[x], #[T]⟩, ty, pos, af, g⟩ a w K Q := by
  have hg := run_getObj (P := P) (S.get hm) (by simp)
  refine wp_val (v := .int .i64 l.length) (w' := w) ?_ hk
  have hrun : (Builtin.len_ #[T] ty #[.map (some r)]).run P w = .ok (.int .i64 l.length) w := by
    simp only [Builtin.len_, List.getElem?_toArray, List.getElem?_cons_zero, Sem.run_bind, run_underlying hT.eq, Result.andThen_ok, hg, Sem.run_pure]
    simp [goInt, ents]
  unfold execOp
  simp only [resolve, invoke, builtin, Sem.run_bind, Sem.run_pure, Result.andThen_ok, List.map_toArray, List.map_cons, List.map_nil, hx, hrun]

/-! #### Ranging -/
/-- A walk over a map: what has been met. -/
def mi (it r c : Nat) (seen : List Nat) : It := blk it (.mapIter (some r) c seen.toArray c)

theorem wp_rangeMap (S : St F w0 w L) {E : Enc κ} {ev : ν → Value} {r c : Nat} {l : List (κ × ν × Nat)} {kT eT : TypeId} [hT : TM P T kT eT]
    (hx : a.eval x = .map (some r)) (hm : Has L (mp E ev r l c)) (hk : ∀ it w1, St F w0 w1 (mi it r c [] :: L) → K (a.put d (.pointer (some ⟨it, 0, none⟩))) w1) :
    Oper.wp P ⟨d, .range T x, ty, pos, af, g⟩ a w K Q := by
  have hg := run_getObj (P := P) (S.get hm) (by simp)
  refine wp_val (v := .pointer (some ⟨w.heap.size, 0, none⟩)) (w' := w.alloc (.mapIter (some r) c #[] c)) ?_ (hk _ _ (S.alloc _))
  simp [execOp, hx, Instr.range, run_underlying hT.eq, hg]

theorem run_choose (q : Question) : (choose q).run P w = if q.forced = true then .ok 0 w else .ok (q.cut (w.tape w.drawn q)) w.drew := rfl
theorem run_choose_map (n : Nat) (hn : 0 < n) : ∃ i w', (choose (.mapNext n)).run P w = .ok i w' ∧ i < n ∧ (w' = w ∨ w' = w.drew) := by
  rw [run_choose]
  by_cases hf : (Question.mapNext n).forced = true
  · rw [if_pos hf]; exact ⟨0, w, rfl, hn, .inl rfl⟩
  · rw [if_neg hf]; exact ⟨_, _, rfl, Nat.mod_lt _ hn, .inr rfl⟩
theorem run_choose_map1 : (choose (.mapNext 1)).run P w = .ok 0 w := by
  rw [run_choose, if_pos (by rfl)]

theorem wp_next (S : St F w0 w L) {E : Enc κ} {ev : ν → Value} {r c it : Nat} {l : List (κ × ν × Nat)} {seen : List Nat}
    (hx : a.eval x = .pointer (some ⟨it, 0, none⟩)) (hi : Out L (mi it r c seen) L') (hm : Has L' (mp E ev r l c)) (hwf : WF l c)
    (hdone : (∀ e ∈ l, e.2.2 ∈ seen) → ∀ w1, St F w0 w1 (mi it r c seen :: L') → K (a.put d (.tuple #[.bool false])) w1)
    (hnext : ∀ e ∈ l, e.2.2 ∉ seen → ∀ w1, St F w0 w1 (mi it r c (seen ++ [e.2.2]) :: L') → K (a.put d (.tuple #[.bool true, .agg (E.f e.1).toArray, ev e.2.1])) w1) :
    Oper.wp P ⟨d, .next x false, ty, pos, af, g⟩ a w K Q := by
  have hb : w.heap[it]? = some (.mapIter (some r) c seen.toArray c) := S.out hi
  have hmem : mp E ev r l c ∈ L := hi.perm.mem_iff.2 (List.mem_cons_of_mem _ hm.mem)
  have hmb : w.heap[r]? = some (.map (ents E ev l) c) := S.ok _ hmem
  have hg := run_getObj (P := P) hb (by simp)
  have hgm := run_getObj (P := P) hmb (by simp)
  have hle : (ents E ev l).filter (fun e => !seen.toArray.contains e.born) = ents E ev (l.filter fun e => !seen.contains e.2.2) := by
    simp only [ents]
    rw [List.filter_toArray', List.filter_map]
    · congr 2
      apply List.filter_congr
      intro e _
      show (!seen.toArray.contains e.2.2) = (!seen.contains e.2.2)
      rw [List.contains_toArray]
    · simp
  have hold : ∀ M : List (κ × ν × Nat), (∀ e ∈ M, e ∈ l) → (ents E ev M).filter (fun e => decide (e.born < c)) = ents E ev M ∧ (ents E ev M).filter (fun e => decide (e.born ≥ c)) = #[] := by
    intro M hM
    simp only [ents]
    constructor
    · rw [List.filter_toArray' (by simp), List.filter_eq_self.2]
      intro e he
      obtain ⟨x, hx, rfl⟩ := List.mem_map.1 he
      exact decide_eq_true (hwf.lt x (hM x hx))
    · rw [List.filter_toArray' (by simp), List.filter_eq_nil_iff.2]
      intro e he
      obtain ⟨x, hx, rfl⟩ := List.mem_map.1 he
      have := hwf.lt x (hM x hx)
      have hn : ¬ ((ent E ev x).born ≥ c) := by simp only [ent]; omega
      simpa using hn
  have hguard : (!seen.toArray.isEmpty && !(ents E ev l).isEmpty && (ents E ev l).all (fun e => decide (e.born ≥ c))) = false := by
    cases l with
    | nil => simp [ents]
    | cons e l =>
      have := hwf.lt e (by simp)
      have hd : decide (e.2.2 ≥ c) = false := by simpa using this
      simp [ents, ent, hd]
  have hleft := hold (l.filter fun e => !seen.contains e.2.2) (fun e he => (List.mem_filter.1 he).1)
  cases hM : l.filter (fun e => !seen.contains e.2.2) with
  | nil =>
    rw [hM] at hle hleft
    refine wp_val (v := .tuple #[.bool false]) (w' := w) ?_ (hdone (fun e he => ?_) w (S.perm hi.perm))
    · simp only [execOp, hx, Instr.next, Sem.run_bind, hg, Result.andThen_ok, hgm, hguard, Bool.false_eq_true, if_false, Sem.run_pure, hle, hleft.1, hleft.2]
      have : (if (ents E ev ([] : List (κ × ν × Nat))).isEmpty = true then #[none] else #[]) ++ (ents E ev ([] : List (κ × ν × Nat)) ++ #[]).map some = (#[none] : Array (Option MapEntry)) := by simp [ents]
      simp only [this, List.size_toArray, List.length_singleton, run_choose_map1, Result.andThen_ok]
      rfl
    · rcases Bool.eq_false_or_eq_true (seen.contains e.2.2) with h | h
      · simpa using h
      · have : e ∈ l.filter (fun e => !seen.contains e.2.2) := List.mem_filter.2 ⟨he, by simpa using h⟩
        rw [hM] at this; cases this
  | cons e0 M =>
    rw [hM] at hle hleft
    have hch := run_choose_map (P := P) (w := w) (M.length + 1) (by omega)
    obtain ⟨i, w', hc, hlt, hw'⟩ := hch
    have hget : ∃ e, (e0 :: M)[i]? = some e := ⟨(e0 :: M)[i]'(by simpa using hlt), by simp [hlt]⟩
    obtain ⟨e, he⟩ := hget
    have hemem : e ∈ l.filter (fun e => !seen.contains e.2.2) := by rw [hM]; exact List.mem_of_getElem? he
    have S' : St F w0 w' L := by rcases hw' with rfl | rfl; exact S; exact S.drew
    have hb' : w'.heap[it]? = some (.mapIter (some r) c seen.toArray c) := by rcases hw' with rfl | rfl <;> exact hb
    refine wp_val (v := .tuple #[.bool true, .agg (E.f e.1).toArray, ev e.2.1]) (w' := World.putObj w' it (.mapIter (some r) c (seen ++ [e.2.2]).toArray c)) ?_
      (hnext e (List.mem_filter.1 hemem).1 (by have := (List.mem_filter.1 hemem).2; simp only [Bool.not_eq_true', List.contains_eq_mem, decide_eq_false_iff_not] at this; exact this) _ (S'.turn hi (putObj_mod w' it _) (putObj_at hb') (by simp [mi, blk]) (fun i hi => .inl hi)))
    have hcand : ((if (ents E ev (e0 :: M)).isEmpty = true then #[none] else #[]) ++ (ents E ev (e0 :: M) ++ #[]).map some : Array (Option MapEntry)) = ((e0 :: M).map fun x => some (ent E ev x)).toArray := by
      simp [ents]
    have hsz : ((e0 :: M).map fun x => some (ent E ev x)).toArray.size = M.length + 1 := by simp
    have hci : ((e0 :: M).map fun x => some (ent E ev x)).toArray[i]? = some (some (ent E ev e)) := by
      simp only [List.getElem?_toArray, List.getElem?_map, he, Option.map_some]
    simp only [execOp, hx, Instr.next, Sem.run_bind, hg, Result.andThen_ok, hgm, hguard, Bool.false_eq_true, if_false, Sem.run_pure, hle, hleft.1, hleft.2, hcand, hsz, hc, hci, run_setObj (P := P) hb' (by simp)]
    simp [ent]

theorem wp_entry (S : St F w0 w L) {E : Enc κ} {ev : ν → Value} {r c it : Nat} {l : List (κ × ν × Nat)} {seen : List Nat} (e : κ × ν × Nat)
    (hx : a.eval x = .pointer (some ⟨it, 0, none⟩)) (hi : Has L (mi it r c (seen ++ [e.2.2]))) (hm : Has L (mp E ev r l c)) (hwf : WF l c) (he : e ∈ l)
    (hk : K (a.put d (.tuple #[.agg (E.f e.1).toArray, ev e.2.1])) w) : Oper.wp P ⟨d, .entry x, ty, pos, af, g⟩ a w K Q := by
  have hg := run_getObj (P := P) (S.get hi) (by simp)
  have hgm := run_getObj (P := P) (S.get hm) (by simp)
  have hf : (ents E ev l).find? (fun x => x.born == e.2.2) = some (ent E ev e) := by
    have hb := hwf.born
    clear hk hm hgm
    have : ∀ M : List (κ × ν × Nat), (M.map (·.2.2)).Nodup → e ∈ M → (M.map (ent E ev)).find? (fun x => x.born == e.2.2) = some (ent E ev e) := by
      intro M
      induction M with
      | nil => intro _ h; cases h
      | cons m M ih =>
        intro hn h
        rw [List.map_cons, List.nodup_cons] at hn
        rcases List.mem_cons.1 h with rfl | h
        · simp [ent]
        · have hne : ¬ m.2.2 = e.2.2 := fun hh => hn.1 (List.mem_map.2 ⟨e, h, hh.symm⟩)
          rw [List.map_cons, List.find?_cons]
          have : ((ent E ev m).born == e.2.2) = false := by simpa [ent] using hne
          rw [this]
          exact ih hn.2 h
    have := this l hb he
    simpa [ents] using this
  refine wp_val (v := .tuple #[.agg (E.f e.1).toArray, ev e.2.1]) (w' := w) ?_ hk
  have hback : (seen ++ [e.2.2]).toArray.back? = some e.2.2 := by simp
  simp only [execOp, hx, Instr.entry, Sem.run_bind, hg, Result.andThen_ok, hback, hgm, Sem.run_pure, hf]
  simp [ent]
end
end Go.Sx
