/-
  Plain laws on the data and on what the functions compute (no program in sight).
-/
import Derived.Test.YtdhopcnapgmhdaaGreatDoorZDx
set_option linter.unusedSimpArgs false
set_option linter.unusedVariables false
set_option linter.unusedSectionVars false
namespace Go.Hd
open Go Go.Sx
/-! ### Sets of places -/
section
variable {α β : Type} (f : α → Nat) (g : α → β)
def setAll (t : List β) (L : List α) : List β := L.foldl (fun t c => t.set (f c) (g c)) t
theorem setAll_length (L : List α) : ∀ t : List β, (setAll f g t L).length = t.length := by
  induction L with
  | nil => intro t; rfl
  | cons x L ih => intro t; rw [setAll, List.foldl_cons]; exact (ih _).trans (by simp)
theorem setAll_snoc (t : List β) (L : List α) (x : α) : setAll f g t (L ++ [x]) = (setAll f g t L).set (f x) (g x) := by simp [setAll, List.foldl_append]
theorem setAll_other (n : Nat) (L : List α) : ∀ t : List β, (∀ c ∈ L, f c ≠ n) → (setAll f g t L)[n]? = t[n]? := by
  induction L with
  | nil => intro t _; rfl
  | cons x L ih =>
    intro t h
    rw [setAll, List.foldl_cons]
    refine (ih _ fun c hc => h c (by simp [hc])).trans ?_
    rw [List.getElem?_set_ne (h x (by simp))]
theorem setAll_at (n : Nat) (L : List α) : ∀ t : List β, n < t.length → ∀ c ∈ L, f c = n → (∀ c' ∈ L, f c' = n → g c' = g c) → (setAll f g t L)[n]? = some (g c) := by
  induction L with
  | nil => intro t _ c hc; simp at hc
  | cons x L ih =>
    intro t hn c hc hf hall
    rw [setAll, List.foldl_cons]
    by_cases hx : ∃ c' ∈ L, f c' = n
    · obtain ⟨c', hc', hf'⟩ := hx
      have := ih (t.set (f x) (g x)) (by simpa using hn) c' hc' hf' (fun c2 h2 h3 => by rw [hall c2 (by simp [h2]) h3, hall c' (by simp [hc']) hf'])
      rw [hall c' (by simp [hc']) hf'] at this
      exact this
    · have hno : ∀ c' ∈ L, f c' ≠ n := fun c' h h' => hx ⟨c', h, h'⟩
      rcases List.mem_cons.1 hc with rfl | hc
      · refine (setAll_other f g n L _ hno).trans ?_
        rw [hf]; simp [hn]
      · exact absurd hf (hno c hc)
end

/-! ### What is told, by steps -/
def has : Option Stp → Nat → Bool
  | none, _ => false
  | some s, k => bitOf s.ids k
def wl : Option Stp → Nat → List Ch
  | none, _ => []
  | some s, k => wantTo s k
def upd (cur : Nat → Option Stp) (a : Nat) (s : Stp) : Nat → Option Stp := fun b => if b = a then some s else cur b
def toldOf (cur : Nat → Option Stp) : List ((Pfx × Int) × Ch) := (List.range 6).flatMap fun a => asked (wl (cur a) 4)
/-- The cell of a prefix. -/
def slot (s : Stp) : Nat := (s.a % 6).toNat
theorem slot_lt (s : Stp) : slot s < 6 := by unfold slot; omega
theorem pfx_slot {s s' : Stp} (h : s.a % 6 = s'.a % 6) : pfx s.a = pfx s'.a := by
  have h3 : s.a % 3 = s'.a % 3 := by omega
  unfold pfx adr; rw [h, h3]
theorem pfx_inj {x y : Int} (h : pfx x = pfx y) : x % 6 = y % 6 := by
  unfold pfx at h
  simp only [Pfx.mk.injEq, true_and, and_true] at h
  obtain ⟨h1, h2⟩ := h
  unfold adr at h2
  simp only [List.cons.injEq] at h2
  have h3 := congrArg UInt8.toNat h2.1
  rw [UInt8.toNat_ofNat', UInt8.toNat_ofNat'] at h3
  omega
theorem mem_wantTo {s : Stp} {n : Nat} {c : Ch} : c ∈ wantTo s n ↔ ∃ k, k < n ∧ bitOf s.ids k = true ∧ c = mkc s k := by
  unfold wantTo
  simp only [List.mem_map, List.mem_filter, List.mem_range]
  constructor
  · rintro ⟨k, ⟨h1, h2⟩, rfl⟩; exact ⟨k, h1, h2, rfl⟩
  · rintro ⟨k, h1, h2, rfl⟩; exact ⟨k, ⟨h1, h2⟩, rfl⟩
theorem mkc_key (s : Stp) (k : Nat) : (mkc s k).key = (pfx s.a, (k : Int)) := rfl
theorem wantTo_keys (s : Stp) (n : Nat) : (wantTo s n).map Ch.key = ((List.range n).filter (bitOf s.ids)).map fun k : Nat => (pfx s.a, (k : Int)) := by
  unfold wantTo; rw [List.map_map]; rfl
theorem wantTo_nodup (s : Stp) (n : Nat) : ((wantTo s n).map Ch.key).Nodup := by
  rw [wantTo_keys]
  refine List.Pairwise.map _ (R := fun a b => a ≠ b) ?_ ?_
  · intro a b h h'; simp at h'; exact h (by exact_mod_cast h')
  · exact List.Pairwise.filter _ List.nodup_range
theorem pfx_ok (x : Int) : okP (pfx x) = true := by
  have h6 : x % 6 = 0 ∨ x % 6 = 1 ∨ x % 6 = 2 ∨ x % 6 = 3 ∨ x % 6 = 4 ∨ x % 6 = 5 := by omega
  have h : pfx x = pfx (x % 6) := by
    have h1 : x % 6 % 6 = x % 6 := by omega
    have h2 : x % 6 % 3 = x % 3 := by omega
    unfold pfx adr; rw [h1, h2]
  rw [h]
  rcases h6 with h | h | h | h | h | h <;> rw [h] <;> decide
theorem want_may {s : Stp} (h : s.ok) : mayL (pfx s.a) (wantTo s 4) = true := by
  refine mayL_all (fun c hc => ?_) (wantTo_nodup s 4)
  obtain ⟨k, hk, _, rfl⟩ := mem_wantTo.1 hc
  have h1 := pfx_ok s.a
  unfold goodC mkc
  have h2 : okN ⟨⟨1 + s.a % 6 / 3, 0, adr s.a, 8⟩, (k : Int), 0⟩ = true := by
    unfold okN
    have : okP ⟨1 + s.a % 6 / 3, 0, adr s.a, 8⟩ = true := h1
    simp only [this]; rfl
  simp only [h2]
  simp [okA, pfx]
theorem pfx_alen (x : Int) : (pfx x).addr.length ≤ 16 := by
  unfold pfx adr; simp; split <;> omega
theorem mget_iff {κ ν : Type} [DecidableEq κ] {M : List (κ × ν × Nat)} (h : (M.map (·.1)).Nodup) {k : κ} {v : ν} : mget k M = some v ↔ (k, v) ∈ M.map fun e => (e.1, e.2.1) := by
  constructor
  · intro hg
    unfold mget at hg
    obtain ⟨e, he, rfl⟩ := Option.map_eq_some_iff.1 hg
    have h2 := List.find?_some he
    simp at h2
    exact List.mem_map.2 ⟨e, List.mem_of_find?_eq_some he, by rw [← h2]⟩
  · intro hm
    obtain ⟨e, he, hee⟩ := List.mem_map.1 hm
    simp only [Prod.mk.injEq] at hee
    obtain ⟨rfl, rfl⟩ := hee
    unfold mget
    have : M.find? (fun x => x.1 == e.1) = some e := by
      obtain ⟨A, B, rfl⟩ := List.append_of_mem he
      rw [List.map_append, List.map_cons, List.nodup_append] at h
      rw [List.find?_append]
      have hA : A.find? (fun x => x.1 == e.1) = none := by
        rw [List.find?_eq_none]; intro x hx
        have := h.2.2 x.1 (List.mem_map.2 ⟨x, hx, rfl⟩) e.1 (by simp)
        simpa using this
      rw [hA]; simp
    rw [this]; rfl
theorem flatMap_congr' {α β : Type} {f g : α → List β} : ∀ {l : List α}, (∀ a ∈ l, f a = g a) → l.flatMap f = l.flatMap g
  | [], _ => rfl
  | x :: l, h => by rw [List.flatMap_cons, List.flatMap_cons, h x (by simp), flatMap_congr' fun a ha => h a (by simp [ha])]
theorem toldOf_upd {cur : Nat → Option Stp} {s : Stp} (hat : ∀ a s', a < 6 → cur a = some s' → s'.a % 6 = (a : Int)) :
    ((toldOf cur).filter (fun e => !decide (e.1.1 = pfx s.a)) ++ asked (wantTo s 4)).Perm (toldOf (upd cur (slot s) s)) := by
  have hf : ∀ a, a < 6 → (asked (wl (cur a) 4)).filter (fun e => !decide (e.1.1 = pfx s.a)) = if a = slot s then [] else asked (wl (cur a) 4) := by
    intro a ha
    cases hc : cur a with
    | none => simp [wl, asked]
    | some s' =>
      have h1 := hat a s' ha hc
      by_cases hs : a = slot s
      · rw [if_pos hs, List.filter_eq_nil_iff]
        intro e he
        obtain ⟨c, hcm, rfl⟩ := List.mem_map.1 he
        obtain ⟨k, _, _, rfl⟩ := mem_wantTo.1 hcm
        have : pfx s'.a = pfx s.a := pfx_slot (by unfold slot at hs; omega)
        simp [mkc_key, this]
      · rw [if_neg hs, List.filter_eq_self]
        intro e he
        obtain ⟨c, hcm, rfl⟩ := List.mem_map.1 he
        obtain ⟨k, _, _, rfl⟩ := mem_wantTo.1 hcm
        have : pfx s'.a ≠ pfx s.a := fun h => hs (by have := pfx_inj h; unfold slot; omega)
        simp [mkc_key, this]
  have hsl := slot_lt s
  have e1 : (toldOf cur).filter (fun e => !decide (e.1.1 = pfx s.a)) = (List.range 6).flatMap fun a => if a = slot s then [] else asked (wl (cur a) 4) := by
    unfold toldOf
    rw [List.filter_flatMap]
    apply flatMap_congr'
    intro a ha
    exact hf a (by simpa using ha)
  rw [e1]
  unfold toldOf
  have key : ∀ n, slot s < n → ((List.range n).flatMap (fun a => if a = slot s then [] else asked (wl (cur a) 4)) ++ asked (wantTo s 4)).Perm ((List.range n).flatMap fun a => asked (wl (upd cur (slot s) s a) 4)) := by
    intro n
    induction n with
    | zero => intro h; omega
    | succ n ih =>
      intro h
      rw [List.range_succ, List.flatMap_append, List.flatMap_append, List.flatMap_singleton, List.flatMap_singleton]
      by_cases hn : n = slot s
      · rw [if_pos hn]
        have e2 : asked (wl (upd cur (slot s) s n) 4) = asked (wantTo s 4) := by simp [upd, hn, wl]
        rw [e2, List.append_nil]
        refine List.Perm.append_right _ ?_
        rw [flatMap_congr' (g := fun a => asked (wl (upd cur (slot s) s a) 4))]
        intro a ha
        have : a ≠ slot s := by have := List.mem_range.1 ha; omega
        simp [upd, this]
      · rw [if_neg hn]
        have e2 : upd cur (slot s) s n = cur n := by simp [upd, hn]
        rw [e2, List.append_assoc]
        exact (List.Perm.append_left _ List.perm_append_comm).trans (by rw [← List.append_assoc]; exact List.Perm.append_right _ (ih (by omega)))
  exact key 6 hsl
end Go.Hd
