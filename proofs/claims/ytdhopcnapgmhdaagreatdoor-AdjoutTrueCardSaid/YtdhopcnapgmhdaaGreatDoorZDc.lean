/-
  Plain laws on the data and on what the functions compute (no program in sight).
-/
import Derived.Test.YtdhopcnapgmhdaaGreatDoorZDb
set_option linter.unusedSimpArgs false
set_option linter.unusedVariables false
set_option linter.unusedSectionVars false
namespace Go.Hd
open Go Go.Sx
/-- A comparison: total, transitive. -/
structure Cmpr {α : Type} (cf : α → α → Int) : Prop where
  flip : ∀ x y, cf y x = - cf x y
  trans : ∀ x y z, cf x y ≤ 0 → cf y z ≤ 0 → cf x z ≤ 0

theorem cmpI_flip (x y : Int) : cmpI y x = - cmpI x y := by
  unfold cmpI
  by_cases h1 : x < y
  · have : ¬ y < x := by omega
    simp [h1, this]
  · by_cases h2 : y < x <;> simp [h1, h2]
theorem cmpI_le (x y : Int) : cmpI x y ≤ 0 ↔ x ≤ y := by
  unfold cmpI
  by_cases h1 : x < y
  · simp [h1]; omega
  · by_cases h2 : y < x
    · simp [h1, h2]
    · simp [h1, h2]; omega
theorem cmpI_zero {x y : Int} (h : cmpI x y = 0) : x = y := by
  have h1 := (cmpI_le x y).1 (by omega)
  have h2 := (cmpI_le y x).1 (by rw [cmpI_flip]; omega)
  omega
theorem cmpI_self (x : Int) : cmpI x x = 0 := by simp [cmpI]
theorem Cmpr.int {α : Type} (f : α → Int) : Cmpr fun x y => cmpI (f x) (f y) :=
  ⟨fun x y => cmpI_flip _ _, fun x y z h1 h2 => by rw [cmpI_le] at *; omega⟩

theorem cmpB_flip : ∀ a b : List UInt8, Lib.compareBytes b a = - Lib.compareBytes a b
  | [], [] => rfl
  | [], _ :: _ => rfl
  | _ :: _, [] => rfl
  | a :: as, b :: bs => by
    unfold Lib.compareBytes
    by_cases h1 : a < b
    · have : ¬ b < a := by rw [UInt8.lt_iff_toNat_lt] at *; omega
      simp [h1, this]
    · by_cases h2 : b < a
      · simp [h1, h2]
      · simp [h1, h2, cmpB_flip as bs]
theorem cmpB_zero : ∀ {a b : List UInt8}, Lib.compareBytes a b = 0 → a = b
  | [], [], _ => rfl
  | [], _ :: _, h => by simp [Lib.compareBytes] at h
  | _ :: _, [], h => by simp [Lib.compareBytes] at h
  | a :: as, b :: bs, h => by
    unfold Lib.compareBytes at h
    by_cases h1 : a < b
    · simp [h1] at h
    · by_cases h2 : b < a
      · simp [h1, h2] at h
      · simp [h1, h2] at h
        have hab : a = b := by
          apply UInt8.toNat.inj
          rw [UInt8.lt_iff_toNat_lt] at *; omega
        rw [hab, cmpB_zero h]
theorem cmpB_self : ∀ a : List UInt8, Lib.compareBytes a a = 0
  | [] => rfl
  | a :: as => by unfold Lib.compareBytes; simp [cmpB_self as]
theorem cmpB_trans : ∀ a b c : List UInt8, Lib.compareBytes a b ≤ 0 → Lib.compareBytes b c ≤ 0 → Lib.compareBytes a c ≤ 0
  | [], _, [], _, _ => by simp [Lib.compareBytes]
  | [], _, _ :: _, _, _ => by simp [Lib.compareBytes]
  | _ :: _, [], _, h, _ => by simp [Lib.compareBytes] at h
  | _ :: _, _ :: _, [], _, h => by simp [Lib.compareBytes] at h
  | a :: as, b :: bs, c :: cs, h1, h2 => by
    unfold Lib.compareBytes at *
    by_cases ab : a < b
    · by_cases bc : b < c
      · have : a < c := by rw [UInt8.lt_iff_toNat_lt] at *; omega
        simp [this]
      · by_cases cb : c < b
        · simp [bc, cb] at h2
        · have : a < c := by rw [UInt8.lt_iff_toNat_lt] at *; omega
          simp [this]
    · by_cases ba : b < a
      · simp [ab, ba] at h1
      · simp only [ab, ba, if_false] at h1
        by_cases bc : b < c
        · have : a < c := by rw [UInt8.lt_iff_toNat_lt] at *; omega
          simp [this]
        · by_cases cb : c < b
          · simp [bc, cb] at h2
          · simp only [bc, cb, if_false] at h2
            have n1 : ¬ a < c := by rw [UInt8.lt_iff_toNat_lt] at *; omega
            have n2 : ¬ c < a := by rw [UInt8.lt_iff_toNat_lt] at *; omega
            simp only [n1, n2, if_false]
            exact cmpB_trans as bs cs h1 h2
theorem Cmpr.bytes {α : Type} (f : α → List UInt8) : Cmpr fun x y => Lib.compareBytes (f x) (f y) :=
  ⟨fun x y => cmpB_flip _ _, fun x y z h1 h2 => cmpB_trans _ _ _ h1 h2⟩
theorem orI_zero {x y : Int} : orI x y = 0 ↔ x = 0 ∧ y = 0 := by unfold orI; split <;> simp_all
theorem orI_le {x y : Int} : orI x y ≤ 0 ↔ x < 0 ∨ (x = 0 ∧ y ≤ 0) := by
  unfold orI; split
  · simp_all
  · omega
theorem Cmpr.or {α : Type} {c d : α → α → Int} (hc : Cmpr c) (hd : Cmpr d) : Cmpr fun x y => orI (c x y) (d x y) := by
  refine ⟨fun x y => ?_, fun x y z h1 h2 => ?_⟩
  · have h1 := hc.flip x y
    have h2 := hd.flip x y
    unfold orI; split <;> split <;> omega
  · rw [orI_le] at *
    have hxz := hc.trans x y z (by omega) (by omega)
    rcases Int.lt_or_eq_of_le hxz with h | h
    · exact .inl h
    · right
      have f1 := hc.flip x y
      have f2 := hc.flip y z
      have f3 := hc.flip x z
      have e1 : c x y = 0 := by
        have := hc.trans y z x (by omega) (by omega)
        omega
      have e2 : c y z = 0 := by
        have := hc.trans z x y (by omega) (by omega)
        omega
      exact ⟨h, hd.trans x y z (by omega) (by omega)⟩
theorem cmpP_cmpr : Cmpr cmpP :=
  (Cmpr.int Pfx.fam).or ((Cmpr.int Pfx.rd).or ((Cmpr.bytes Pfx.addr).or (Cmpr.int Pfx.len)))
theorem cmpP_zero {p q : Pfx} (h : cmpP p q = 0) : p = q := by
  unfold cmpP at h
  rw [orI_zero, orI_zero, orI_zero] at h
  obtain ⟨a, b, c, d⟩ := p
  obtain ⟨a', b', c', d'⟩ := q
  have h1 := cmpI_zero h.1
  have h2 := cmpI_zero h.2.1
  have h3 := cmpB_zero h.2.2.1
  have h4 := cmpI_zero h.2.2.2
  simp only at h1 h2 h3 h4
  subst h1; subst h2; subst h3; subst h4; rfl
/-- The order of what is told. -/
def cmpC (x y : Ch) : Int := orI (cmpP x.n.p y.n.p) (cmpI x.n.id y.n.id)
theorem cmpC_cmpr : Cmpr cmpC := by
  have h1 : Cmpr fun x y : Ch => cmpP x.n.p y.n.p := ⟨fun x y => cmpP_cmpr.flip _ _, fun x y z => cmpP_cmpr.trans _ _ _⟩
  exact h1.or (Cmpr.int fun c : Ch => c.n.id)
theorem cmpC_zero {x y : Ch} (h : cmpC x y = 0) : x.key = y.key := by
  rw [cmpC, orI_zero] at h
  rw [Ch.key, Ch.key, cmpP_zero h.1, cmpI_zero h.2]
end Go.Hd
