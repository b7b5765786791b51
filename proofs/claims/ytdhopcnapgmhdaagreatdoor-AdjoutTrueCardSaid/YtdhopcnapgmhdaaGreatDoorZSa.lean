/-
  Own lemmas for walks over memory: states, blocks, maps, rows (no program in sight but the rules).
-/
import Derived.Test.YtdhopcnapgmhdaaGreatDoorZSz
import Derived.Great.BuildSlice
set_option linter.unusedSimpArgs false
set_option linter.unusedVariables false
set_option linter.unusedSectionVars false
namespace Go.Sx
open Go.RowKit

/-! ### 7. Slices that the call itself makes -/
section
variable {P : Program} {Q : Exit → Act → World → Prop} {K : Act → World → Prop} {F : Nat → Prop} {w0 w : World} {L L' : List It} {a : Act}
  {d : Option Tmp} {T ty T2 : TypeId} {x y : Operand} {pos : String} {af : Array Edge} {g : Option (Nat × Bool)}

/-- A slice type: its element, the element's cells, bytes, zero. -/
class TSl (P : Program) (t : TypeId) (e : outParam TypeId) (size bytes : outParam Nat) : Prop where
  eq : P.underlying t = some (.slice e)
  info : ∃ i, P.info? e = some i ∧ i.size = size ∧ i.bytes = bytes ∧ ∃ z, i.zero = some z ∧ z.cells.size = size
  pos : 0 < size
theorem TSl.mk' {t e : TypeId} {size bytes : Nat} (h1 : P.underlying t = some (.slice e)) (h2 : (P.info? e).map (fun i => (i.size, i.bytes, i.zero.map (·.cells.size))) = some (size, bytes, some size)) (h3 : decide (0 < size) = true) : TSl P t e size bytes := by
  refine ⟨h1, ?_, by simpa using h3⟩
  obtain ⟨i, hi, he⟩ := Option.map_eq_some_iff.1 h2
  simp only [Prod.mk.injEq] at he
  obtain ⟨z, hz, hs⟩ := Option.map_eq_some_iff.1 he.2.2
  exact ⟨i, hi, he.1, he.2.1, z, hz, hs⟩

theorem own_flat (w : World) (e : TypeId) (size : Nat) (v : Value) (n : Nat) (xs : List Value) (h : w.ownsRow 0 e size v n xs) (w' : World) (hb : ∀ b ∈ v.ownBlock.toList, w'.heap[b]? = w.heap[b]?) : w'.ownsRow 0 e size v n xs := by
  refine ⟨h.1, h.2.imp id ?_⟩
  rintro ⟨g, cap, cur, rfl, h1, h2, h3⟩
  exact ⟨g, cap, cur, rfl, h1, by rw [hb g (by simp [Value.ownBlock])]; exact h2, h3⟩

/-- A slice that owns its block: nil, or at the head of a block. -/
def ow (v : Value) (e : TypeId) (size n : Nat) (xs : List Value) : It :=
  ⟨v.ownBlock.toList, fun w => w.ownsRow 0 e size v n xs, fun w w' h hp => own_flat w e size v n xs hp w' h⟩

theorem run_append_ow {t ty e : TypeId} {size bytes : Nat} [ht : TSl P t e size bytes] {v : Value} {n : Nat} {xs : List Value} (hown : w.ownsRow 0 e size v n xs)
    {ad : Addr} {m c : Nat} {news : List Value} (hl : news.length = m * size) (hnews : ∀ j u, news[j]? = some u → w.cell? (ad.add j) = some u) (h1 : ∀ u ∈ news, u.oneCell' = true)
    (h63 : n + m ≤ maxLen) (hbytes : (n + m) * bytes ≤ 140737488355328) :
    ∃ v' w', (Builtin.append_ #[t, t] ty #[v, .slice (some ad) m c]).run P w = .ok v' w' ∧ w'.ownsRow 0 e size v' (n + m) (xs ++ news) ∧ Mod (· ∈ v.ownBlock.toList) w w' ∧
      (∀ b ∈ v'.ownBlock.toList, b ∈ v.ownBlock.toList ∨ w.heap.size ≤ b ∧ b < w'.heap.size) ∧ (v' = .slice none 0 0 ↔ v = .slice none 0 0 ∧ m = 0) := by
  obtain ⟨i, hi, rfl, rfl, z, hz, hzs⟩ := ht.info
  obtain ⟨v', w', hr, ho, hg, hn⟩ := run_append_own (P := P) w 0 t ty e i z i.size i.bytes ht.eq hi hz rfl rfl hzs ht.pos v n xs hown ad m c news hl hnews h1 h63 hbytes (Nat.zero_le _)
  refine ⟨v', w', hr, ho, ⟨hg.os, hg.tape, hg.output, hg.size, ok_drawn hr, fun k hk hk' => hg.block k hk fun e => hk' (by rw [← e]; simp)⟩, ?_, hn⟩
  rcases hown.2 with ⟨rfl, rfl⟩ | ⟨g, cap, cur, rfl, _, hgb, hnc, hcm, hcs, htake⟩
  · have hx : xs = [] := List.eq_nil_of_length_eq_zero (by simpa using hown.1)
    subst hx
    obtain ⟨v2, w2, hr2, ho2, _, _⟩ := run_append_own (P := P) w w.heap.size t ty e i z i.size i.bytes ht.eq hi hz rfl rfl hzs ht.pos _ 0 [] (World.ownsRow_nil w _ e i.size) ad m c news hl hnews h1 h63 hbytes (Nat.le_refl _)
    rw [hr] at hr2
    cases hr2
    intro b hb
    exact .inr (ho2.lt b (by simpa using hb))
  · intro b hb
    by_cases hroom : n + m ≤ cap
    · have hfit : n * i.size + news.length ≤ cur.size := by rw [hl, hcs, ← Nat.add_mul]; exact Nat.mul_le_mul_right _ hroom
      have hr2 := run_append_room (P := P) (ty := ty) w t e i ht.eq hi g n cap cur hgb ad m c news hl hnews h1 hroom hfit
      rw [hr] at hr2
      cases hr2
      exact .inl (by simpa [Value.ownBlock] using hb)
    · have holds : ∀ j u, xs[j]? = some u → w.cell? ((⟨g, 0, none⟩ : Addr).add j) = some u := hown.cells (g := g) rfl
      have hr2 := run_append_grow (P := P) w t ty e i z ht.eq hi hz ⟨g, 0, none⟩ n cap xs hown.1 holds ad m c news hl hnews (by omega) (by unfold maxLen at h63; omega) (growslice_fits (by omega) hbytes)
      rw [hr] at hr2
      cases hr2
      refine .inr ?_
      have : b = w.heap.size := by simpa [Value.ownBlock] using hb
      subst this
      simp

/-- 'append(s, x..)' onto a slice of the call's own, of a slice whose cells the walk knows. -/
theorem wp_append (S : St F w0 w L) {e : TypeId} {size bytes : Nat} [ht : TSl P T e size bytes] {v : Value} {n : Nat} {xs : List Value} {ad : Addr} {m c : Nat} {news : List Value}
    (hs : a.eval x = v) (hx : a.eval y = .slice (some ad) m c) (ho : Out L (ow v e size n xs) L') (hl : news.length = m * size) (hnews : ∀ j u, news[j]? = some u → w.cell? (ad.add j) = some u) (h1 : news.all Value.oneCell' = true)
    (h63 : n + m ≤ maxLen) (hbytes : (n + m) * bytes ≤ 140737488355328)
    (hk : ∀ v' w', St F w0 w' (ow v' e size (n + m) (xs ++ news) :: L') → (v' = .slice none 0 0 ↔ v = .slice none 0 0 ∧ m = 0) → K (a.put d v') w') :
    Oper.wp P ⟨d, .call ⟨.builtin .append, #[x, y], #[T, T]⟩, ty, pos, af, g⟩ a w K Q := by
  obtain ⟨v', w', hr, how, hmod, hblk, hn⟩ := run_append_ow (P := P) (t := T) (ty := ty) (e := e) (size := size) (bytes := bytes) (c := c) (S.out ho) hl hnews (by simpa using h1) h63 hbytes
  refine wp_val (v := v') (w' := w') ?_ (hk v' w' (S.turn ho hmod how ?_ hblk) hn)
  · unfold execOp
    simp only [resolve, invoke, builtin, Sem.run_bind, Sem.run_pure, Result.andThen_ok, List.map_toArray, List.map_cons, List.map_nil, hs, hx, hr]
  · show (Option.toList _).Nodup
    cases v'.ownBlock <;> simp

/-! #### 'fill' where every place is written -/
theorem foldl_set (vs : List Value) : ∀ (k : Nat) (cs : List Value) (off : Nat), off + k + vs.length ≤ cs.length →
    ((vs.zipIdx k).foldl (fun (cs : Array Value) (x : Value × Nat) => cs.setIfInBounds (off + x.2) x.1) cs.toArray) = (cs.take (off + k) ++ vs ++ cs.drop (off + k + vs.length)).toArray := by
  induction vs with
  | nil => intro k cs off h; simp
  | cons v vs ih =>
    intro k cs off h
    simp only [List.length_cons] at h
    simp only [List.zipIdx_cons, List.foldl_cons]
    have hlt : off + k < cs.length := by omega
    have e1 : cs.toArray.setIfInBounds (off + k) v = (cs.set (off + k) v).toArray := by simp
    rw [e1, ih (k + 1) (cs.set (off + k) v) off (by simp; omega)]
    congr 1
    apply List.ext_getElem?
    intro j
    simp only [List.getElem?_append, List.length_append, List.length_take, List.length_set, List.getElem?_take, List.getElem?_drop, List.getElem?_set, List.length_cons, List.getElem?_cons]
    rcases Nat.lt_trichotomy j (off + k) with h1 | h1 | h1
    · grind
    · grind
    · grind

theorem fill_step {size : Nat} {v : Value} {cs zs done : List Value} {i : Nat} {rest : List (Nat × Value)} (hv : v.cells = cs.toArray) (hl : cs.length = size) (hd : done.length = i * size) (hz : size ≤ zs.length) :
    Instr.fill (fun i => some (i * size, size)) (done ++ zs).toArray ((i, v) :: rest) = Instr.fill (fun i => some (i * size, size)) (done ++ cs ++ zs.drop size).toArray rest := by
  simp only [Instr.fill, hv]
  rw [if_neg (by simp [hl]; omega)]
  have e := foldl_set cs 0 (done ++ zs) (i * size) (by simp; omega)
  have e4 : (done ++ zs).take (i * size + 0) ++ cs ++ (done ++ zs).drop (i * size + 0 + cs.length) = done ++ cs ++ zs.drop size := by
    rw [Nat.add_zero, ← hd, List.take_left, hl, ← List.drop_drop, List.drop_left]
  rw [e4] at e
  have e5 : Array.foldl (fun (cs : Array Value) (x : Value × Nat) => cs.setIfInBounds (i * size + x.2) x.1) (done ++ zs).toArray cs.toArray.zipIdx = (done ++ cs ++ zs.drop size).toArray := by
    rw [← e]; simp
  exact congrArg (fun z => Instr.fill (fun i => some (i * size, size)) z rest) e5

theorem fill_all {size : Nat} : ∀ (vs : List Value) (css : List (List Value)) (i : Nat) (done zs : List Value), vs.map Value.cells = css.map List.toArray → (∀ cs ∈ css, cs.length = size) → done.length = i * size → zs.length = vs.length * size →
    Instr.fill (fun i => some (i * size, size)) (done ++ zs).toArray ((vs.zipIdx i).map fun x => (x.2, x.1)) = some (done ++ css.flatten).toArray := by
  intro vs
  induction vs with
  | nil =>
    intro css i done zs h _ _ hz
    have : css = [] := by simpa using h.symm
    subst this
    have : zs = [] := List.eq_nil_of_length_eq_zero (by simpa using hz)
    subst this
    simp [Instr.fill]
  | cons v vs ih =>
    intro css i done zs h hcs hd hz
    cases css with
    | nil => simp at h
    | cons c css =>
      simp only [List.map_cons, List.cons.injEq] at h
      have hc := hcs c (by simp)
      simp only [List.length_cons, Nat.add_mul, Nat.one_mul] at hz
      simp only [List.zipIdx_cons, List.map_cons]
      rw [fill_step h.1 hc hd (by omega), ih css (i + 1) (done ++ c) (zs.drop size) h.2 (fun x hx => hcs x (by simp [hx])) (by simp [hc, hd, Nat.add_mul]) (by simp; omega)]
      simp

/-- A slice laid whole ('[]T{..}', what '..' hands over). -/
theorem wp_buildSlice (S : St F w0 w L) {e : TypeId} {size bytes len : Nat} {parts : Array (Nat × Operand)} [ht : TSl P T e size bytes] {vs : List Value} {css : List (List Value)}
    (hp : (parts.map fun (i, x) => (i, a.eval x)).toList = (vs.zipIdx 0).map fun x => (x.2, x.1)) (hcs : vs.map Value.cells = css.map List.toArray) (hsz : css.all (fun c => c.length == size) = true) (hlen : vs.length = len)
    (hl : decide (len * size ≤ 16777216) = true) (hpos : decide (0 < len) = true)
    (hk : ∀ b w1, St F w0 w1 (cb b css.flatten e :: L) → K (a.put d (.slice (some ⟨b, 0, none⟩) len len)) w1) : Oper.wp P ⟨d, .buildSlice T len parts, ty, pos, af, g⟩ a w K Q := by
  obtain ⟨i, hi, rfl, rfl, z, hz, hzs⟩ := ht.info
  have hl' : ¬ (len * i.size > 2 ^ 24) := by simpa using hl
  have hne : ¬ (len * i.size = 0) := by
    have h1 := ht.pos
    have h2 : 0 < len := by simpa using hpos
    exact Nat.mul_ne_zero (by omega) (by omega)
  have hfill : Instr.fill (fun j => some (j * i.size, i.size)) ((Array.range (len * i.size)).map (z.cells[· % z.cells.size]!)) (parts.map fun (i, x) => (i, a.eval x)).toList = some css.flatten.toArray := by
    rw [hp]
    have := fill_all (size := i.size) vs css 0 [] ((Array.range (len * i.size)).map (z.cells[· % z.cells.size]!)).toList hcs (fun c hc => by simpa using List.all_eq_true.1 hsz c hc) (by simp) (by simp [hlen])
    rw [List.nil_append, List.nil_append, Array.toArray_toList] at this
    exact this
  refine wp_val (v := .slice (some ⟨w.heap.size, 0, none⟩) len len) (w' := w.alloc (.cells css.flatten.toArray e)) ?_ (hk _ _ (S.alloc _))
  simp only [execOp, Sem.run_bind, run_buildSlice w T e len _ _ i z ht.eq hi hz hl' hne hfill, Result.andThen_ok, Sem.run_pure]
theorem wp_buildSlice1 (S : St F w0 w L) {e : TypeId} {size bytes : Nat} [ht : TSl P T e size bytes] {x0 : Operand} {v0 : Value} {k0 : List Value}
    (h0 : a.eval x0 = v0) (c0 : v0.cells = k0.toArray) (l0 : k0.length = size) (hl : decide (1 * size ≤ 16777216) = true)
    (hk : ∀ b w1, St F w0 w1 (cb b (k0) e :: L) → K (a.put d (.slice (some ⟨b, 0, none⟩) 1 1)) w1) : Oper.wp P ⟨d, .buildSlice T 1 #[(0, x0)], ty, pos, af, g⟩ a w K Q :=
  wp_buildSlice S (vs := [v0]) (css := [k0]) (by simp [h0]) (by simp [c0]) (by simp [l0]) rfl hl rfl
    (by simpa using hk)
theorem wp_buildSlice2 (S : St F w0 w L) {e : TypeId} {size bytes : Nat} [ht : TSl P T e size bytes] {x0 x1 : Operand} {v0 v1 : Value} {k0 k1 : List Value}
    (h0 : a.eval x0 = v0) (c0 : v0.cells = k0.toArray) (l0 : k0.length = size) (h1 : a.eval x1 = v1) (c1 : v1.cells = k1.toArray) (l1 : k1.length = size) (hl : decide (2 * size ≤ 16777216) = true)
    (hk : ∀ b w1, St F w0 w1 (cb b (k0 ++ k1) e :: L) → K (a.put d (.slice (some ⟨b, 0, none⟩) 2 2)) w1) : Oper.wp P ⟨d, .buildSlice T 2 #[(0, x0), (1, x1)], ty, pos, af, g⟩ a w K Q :=
  wp_buildSlice S (vs := [v0, v1]) (css := [k0, k1]) (by simp [h0, h1]) (by simp [c0, c1]) (by simp [l0, l1]) rfl hl rfl
    (by simpa using hk)
theorem wp_buildSlice3 (S : St F w0 w L) {e : TypeId} {size bytes : Nat} [ht : TSl P T e size bytes] {x0 x1 x2 : Operand} {v0 v1 v2 : Value} {k0 k1 k2 : List Value}
    (h0 : a.eval x0 = v0) (c0 : v0.cells = k0.toArray) (l0 : k0.length = size) (h1 : a.eval x1 = v1) (c1 : v1.cells = k1.toArray) (l1 : k1.length = size) (h2 : a.eval x2 = v2) (c2 : v2.cells = k2.toArray) (l2 : k2.length = size) (hl : decide (3 * size ≤ 16777216) = true)
    (hk : ∀ b w1, St F w0 w1 (cb b (k0 ++ k1 ++ k2) e :: L) → K (a.put d (.slice (some ⟨b, 0, none⟩) 3 3)) w1) : Oper.wp P ⟨d, .buildSlice T 3 #[(0, x0), (1, x1), (2, x2)], ty, pos, af, g⟩ a w K Q :=
  wp_buildSlice S (vs := [v0, v1, v2]) (css := [k0, k1, k2]) (by simp [h0, h1, h2]) (by simp [c0, c1, c2]) (by simp [l0, l1, l2]) rfl hl rfl
    (by simpa using hk)
theorem wp_buildSlice4 (S : St F w0 w L) {e : TypeId} {size bytes : Nat} [ht : TSl P T e size bytes] {x0 x1 x2 x3 : Operand} {v0 v1 v2 v3 : Value} {k0 k1 k2 k3 : List Value}
    (h0 : a.eval x0 = v0) (c0 : v0.cells = k0.toArray) (l0 : k0.length = size) (h1 : a.eval x1 = v1) (c1 : v1.cells = k1.toArray) (l1 : k1.length = size) (h2 : a.eval x2 = v2) (c2 : v2.cells = k2.toArray) (l2 : k2.length = size) (h3 : a.eval x3 = v3) (c3 : v3.cells = k3.toArray) (l3 : k3.length = size) (hl : decide (4 * size ≤ 16777216) = true)
    (hk : ∀ b w1, St F w0 w1 (cb b (k0 ++ k1 ++ k2 ++ k3) e :: L) → K (a.put d (.slice (some ⟨b, 0, none⟩) 4 4)) w1) : Oper.wp P ⟨d, .buildSlice T 4 #[(0, x0), (1, x1), (2, x2), (3, x3)], ty, pos, af, g⟩ a w K Q :=
  wp_buildSlice S (vs := [v0, v1, v2, v3]) (css := [k0, k1, k2, k3]) (by simp [h0, h1, h2, h3]) (by simp [c0, c1, c2, c3]) (by simp [l0, l1, l2, l3]) rfl hl rfl
    (by simpa using hk)
theorem wp_buildSlice5 (S : St F w0 w L) {e : TypeId} {size bytes : Nat} [ht : TSl P T e size bytes] {x0 x1 x2 x3 x4 : Operand} {v0 v1 v2 v3 v4 : Value} {k0 k1 k2 k3 k4 : List Value}
    (h0 : a.eval x0 = v0) (c0 : v0.cells = k0.toArray) (l0 : k0.length = size) (h1 : a.eval x1 = v1) (c1 : v1.cells = k1.toArray) (l1 : k1.length = size) (h2 : a.eval x2 = v2) (c2 : v2.cells = k2.toArray) (l2 : k2.length = size) (h3 : a.eval x3 = v3) (c3 : v3.cells = k3.toArray) (l3 : k3.length = size) (h4 : a.eval x4 = v4) (c4 : v4.cells = k4.toArray) (l4 : k4.length = size) (hl : decide (5 * size ≤ 16777216) = true)
    (hk : ∀ b w1, St F w0 w1 (cb b (k0 ++ k1 ++ k2 ++ k3 ++ k4) e :: L) → K (a.put d (.slice (some ⟨b, 0, none⟩) 5 5)) w1) : Oper.wp P ⟨d, .buildSlice T 5 #[(0, x0), (1, x1), (2, x2), (3, x3), (4, x4)], ty, pos, af, g⟩ a w K Q :=
  wp_buildSlice S (vs := [v0, v1, v2, v3, v4]) (css := [k0, k1, k2, k3, k4]) (by simp [h0, h1, h2, h3, h4]) (by simp [c0, c1, c2, c3, c4]) (by simp [l0, l1, l2, l3, l4]) rfl hl rfl
    (by simpa using hk)
end
end Go.Sx
