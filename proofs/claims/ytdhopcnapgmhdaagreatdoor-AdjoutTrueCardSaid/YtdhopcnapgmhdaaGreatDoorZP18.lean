/-
  Walks: what functions of the program return and which memory they touch.
-/
import Derived.Test.YtdhopcnapgmhdaaGreatDoorZP17
set_option linter.unusedSimpArgs false
set_option linter.unusedVariables false
set_option linter.unusedSectionVars false
open Go Go.RowKit Go.Proofs Go.Sx Go.Hd
namespace Go.Proofs.T
set_option maxRecDepth 100000
attribute [local irreducible] Oper.wp Calls Code.wp wpList HD HX

theorem mem_has {x : It} : ∀ {L : List It}, x ∈ L → Has L x
  | y :: L, h => by
    rcases List.mem_cons.1 h with rfl | h
    · exact .head
    · exact .tail (mem_has h)
/-- 'Want', where what is wanted may be: as a step of a caller's walk. -/
theorem Want_good {F : Nat → Prop} {w0 w : World} {L L1 : List It} {o r : Nat} {p : Pfx} {v : Value} {l : List Ch} {M : Tolds} {c : Nat} (S : St F w0 w L) (hr : Out L (mp keyE Ch.val r M c) L1) (ho : Has L1 (cb o [.map (some r)] 98))
    (hwf : WF M c) (hM : M.length ≤ 1000000) (hl : l.length ≤ 1000000) (hT : ToldsOk M) (hp : okP p = true) (hmay : mayL p l = true) (hv : RowIn w v l.length (l.map Ch.cells).flatten (fun b => b ≠ o ∧ b ≠ r))
    (hfit : (M.filter fun e => !decide (e.1.1 = p)).length + l.length ≤ 4096) (hpa : p.addr.length < 2 ^ 62) (hla : ∀ c ∈ l, c.n.p.addr.length < 2 ^ 62) :
    Calls Tryz.prog 35 #[.pointer (some ⟨o, 0, none⟩), p.val, v] w fun e w' => ∃ (v' : Value) (out : List Ch) (M' : Tolds) (c' : Nat), e = .returned (.tuple #[v', .int .i64 0]) ∧
      St F w0 w' (ow v' 84 23 out.length (out.map Ch.cells).flatten :: mp keyE Ch.val r M' c' :: L1) ∧
      WF M' c' ∧ ToldsOk M' ∧ (kv M').Perm ((kv M).filter (fun e => !decide (e.1.1 = p)) ++ asked l) ∧ out.Perm (outOf M p l) ∧ out.Pairwise fun x y => cmpC x y ≤ 0 := by
  have hb1 : w.heap[o]? = some (.cells [.map (some r)].toArray 98 (0, 0)) := (S.perm hr.perm).get (.tail ho)
  have hb2 : w.heap[r]? = some (.map (ents keyE Ch.val M) c) := S.out hr
  have hne : o ≠ r := fun e => S.ne hr ho o (by simp [cb, blk]) (by simp [mp, blk, e])
  refine (Want35_any o r p v l w M c hne hb1 hb2 hwf hM hl hT hp hv hfit hpa hla).mono ?_
  intro e w' h
  rcases h with ⟨h, _⟩ | ⟨_, v', out, M', c', rfl, S2, h1, h2, h3, h4, h5⟩
  · rw [hmay] at h; cases h
  · refine ⟨v', out, M', c', rfl, ?_, h1, h2, h3, h4, h5⟩
    have S3 := S.callx hr (S2.weak (G := (· ∈ (mp keyE Ch.val r M c).fp)) (fun k _ h => by simp [mp, blk, h]))
    exact S3
theorem Len_good {F : Nat → Prop} {w0 w : World} {L L1 : List It} {o r : Nat} {M : Tolds} {c : Nat} (S : St F w0 w L) (hr : Out L (mp keyE Ch.val r M c) L1) (ho : Has L1 (cb o [.map (some r)] 98)) :
    Calls Tryz.prog 40 #[.pointer (some ⟨o, 0, none⟩)] w fun e w' => e = .returned (.int .i64 (M.length : Int)) ∧ Mod Nil w w' := by
  have hb1 : w.heap[o]? = some (.cells [.map (some r)].toArray 98 (0, 0)) := (S.perm hr.perm).get (.tail ho)
  have hb2 : w.heap[r]? = some (.map (ents keyE Ch.val M) c) := S.out hr
  have hne : o ≠ r := fun e => S.ne hr ho o (by simp [cb, blk]) (by simp [mp, blk, e])
  exact Len40_any o r w M c hne hb1 hb2
theorem row_cb {F : Nat → Prop} {w0 w : World} {L L1 L2 : List It} {o r b : Nat} {M : Tolds} {c n k : Nat} {cs : List Value} {T : TypeId} {f : Nat × Nat} (S : St F w0 w L) (h1 : Out L (mp keyE Ch.val r M c) L1) (h2 : Out L1 (cb o [.map (some r)] 98) L2) (h3 : Has L2 (cb b cs T f)) :
    RowIn w (.slice (some ⟨b, 0, none⟩) n k) n cs (fun b => b ≠ o ∧ b ≠ r) := by
  have h4 : Has L1 (cb b cs T f) := (h2.perm.mem_iff.2 (by simp [h3.mem]) : cb b cs T f ∈ L1) |> mem_has
  refine RowIn.of_cb ((S.perm h1.perm).get (.tail h4)) ⟨fun e => ?_, fun e => ?_⟩
  · have S1 := (S.perm h1.perm).sub (List.Sublist.cons _ (List.Sublist.refl _))
    exact S1.ne h2 h3 b (by simp [cb, blk]) (by simp [cb, blk, e])
  · exact S.ne h1 h4 b (by simp [cb, blk]) (by simp [mp, blk, e])
theorem row_ow {F : Nat → Prop} {w0 w : World} {L L1 L2 : List It} {o r : Nat} {M : Tolds} {c n size : Nat} {v : Value} {e : TypeId} {xs : List Value} (S : St F w0 w L) (h1 : Out L (mp keyE Ch.val r M c) L1) (h2 : Out L1 (cb o [.map (some r)] 98) L2) (h3 : Has L2 (ow v e size n xs)) :
    RowIn w v n xs (fun b => b ≠ o ∧ b ≠ r) := by
  have h4 : Has L1 (ow v e size n xs) := (h2.perm.mem_iff.2 (by simp [h3.mem]) : ow v e size n xs ∈ L1) |> mem_has
  refine RowIn.of_ow ((S.perm h1.perm).get (.tail h4)) fun b hb => ⟨fun e => ?_, fun e => ?_⟩
  · have S1 := (S.perm h1.perm).sub (List.Sublist.cons _ (List.Sublist.refl _))
    exact S1.ne h2 h3 b hb (by simp [cb, blk, e])
  · exact S.ne h1 h4 b hb (by simp [mp, blk, e])
end Go.Proofs.T
