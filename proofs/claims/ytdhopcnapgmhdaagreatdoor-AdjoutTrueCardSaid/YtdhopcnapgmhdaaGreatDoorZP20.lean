/-
  Walks: what functions of the program return and which memory they touch.
-/
import Derived.Test.YtdhopcnapgmhdaaGreatDoorZP20a
import Derived.Test.YtdhopcnapgmhdaaGreatDoorZP20b
import Derived.Test.YtdhopcnapgmhdaaGreatDoorZP20c
import Derived.Deep.Cut
import Derived.Deep.CutRange
import Derived.Test.YtdhopcnapgmhdaaGreatDoorZDz
set_option linter.unusedSimpArgs false
set_option linter.unusedVariables false
set_option linter.unusedSectionVars false
open Go Go.RowKit Go.Proofs Go.Sx Go.Hd
namespace Go.Proofs.T
set_option maxRecDepth 100000
attribute [local irreducible] Oper.wp Calls Code.wp wpList HD HX

set_option maxHeartbeats 4000000 in
theorem AdjoutTrue5 (l : List Stp) (v : Value) (m : Int) (w : World) (hg : w.cell? ⟨0, 0, none⟩ = some (.int .i64 m)) (hok : ∀ s ∈ l, s.ok) (hl : l.length ≤ 9223372036854775807) (hv : ArgIn w v l.length (l.map Stp.cells).flatten) :
    Calls Tryz.prog 5 #[v] w fun e w' => e = .returned (.bool true) ∧ Mod Nil w w' := by
  have S := St.init Nil w
  obtain ⟨pv, cap, rfl, hrow⟩ := hv
  have HG := Lib.hid hg; clear hg
  go_enter Tryz.func5, Tryz.ntmps5
  repeat' (first
    | go_big_hide
    | go_big_move
    | ((fail_if_success (show Code.wp _ (Code.block 0 _) _ _ _)); go_big_cond)
    | go_big_open
    | (show Oper.wp _ ⟨_, .makeSlice 72 _ _, _, _, _, _⟩ _ _ _ _; refine wp_makeSlice (n := 24) S rfl rfl rfl (by omega) (by omega) ?_; clear S; intro bt w1 S; simp only [Act.put, List.setIfInBounds_toArray, List.set_cons_zero, List.set_cons_succ])
    | (show Oper.wp _ ⟨_, .makeSlice 31 _ _, _, _, _, _⟩ _ _ _ _; refine wp_makeSlice (n := 24) S rfl rfl rfl (by omega) (by omega) ?_; clear S; intro bm w1 S; simp only [Act.put, List.setIfInBounds_toArray, List.set_cons_zero, List.set_cons_succ])
    | (show Oper.wp _ ⟨_, .makeSlice 73 _ _, _, _, _, _⟩ _ _ _ _; refine wp_makeSlice (n := 6) S rfl rfl rfl (by omega) (by omega) ?_; clear S; intro bl w1 S; simp only [Act.put, List.setIfInBounds_toArray, List.set_cons_zero, List.set_cons_succ])
    | (show wpList _ _ _ (⟨_, _, _, _, _, some _⟩ :: _) _ _; first | (refine wpList_g rfl ?_ ?_ <;> (intro hc; (try simp only [Bool.not_true, Bool.not_false, reduceCtorEq] at hc); (try (change True at hc; clear hc)); (try simp only [hc, Bool.not_true, Bool.not_false]); (try simp only [Act.put, List.setIfInBounds_toArray, List.set_cons_zero, List.set_cons_succ, List.drop_zero, List.drop_succ_cons, List.take_succ_cons, List.take_zero, setL]))) | (refine wpList_g0 rfl ?_; (try simp only [Act.put, List.setIfInBounds_toArray, List.set_cons_zero, List.set_cons_succ, List.drop_zero, List.drop_succ_cons, List.take_succ_cons, List.take_zero, setL])))
    | (show Oper.wp _ _ _ _ _ _; (first | (show Oper.wp _ ⟨_, .alloc _, _, _, _, _⟩ _ _ _ _; refine wp_alloc S rfl ?_; clear S; intro b w1 S; (try simp only [Value.cells, List.toList_toArray] at S)) | (show Oper.wp _ ⟨_, .load _ _, _, _, _, _⟩ _ _ _ _; refine wp_load1 S rfl (by with_reducible (repeat (first | exact Has.head | refine Has.tail ?_))) rfl ?_) | (show Oper.wp _ ⟨_, .load _ _, _, _, _, _⟩ _ _ _ _; refine wp_loadN S rfl (by with_reducible (repeat (first | exact Has.head | refine Has.tail ?_))) rfl rfl ?_) | (show Oper.wp _ ⟨_, .store _ _ _, _, _, _, _⟩ _ _ _ _; refine wp_store S rfl rfl rfl (by with_reducible (repeat (first | exact Upd.head | apply Upd.tail))) (by first | exact .inl (Nat.le_refl _) | exact .inr (Nat.le_refl _)) rfl rfl rfl rfl ?_; clear S; intro w1 S; simp only [List.set_cons_zero, List.set_cons_succ, setL, Act.eval, Array.getD_eq_getD_getElem?, List.getElem?_toArray, List.getElem?_cons_succ, List.getElem?_cons_zero, Option.getD_some] at S) | (show Oper.wp _ ⟨_, .binOp .eql _ _ _ _, _, _, _, _⟩ _ _ _ _; refine wp_eqAgg rfl rfl rfl rfl ?_; simp only [eqCells, eqVal, Bool.and_true]) | (show Oper.wp _ ⟨_, .binOp .neq _ _ _ _, _, _, _, _⟩ _ _ _ _; refine wp_neAgg rfl rfl rfl rfl ?_; simp only [eqCells, eqVal, Bool.and_true])) <;> simp only [Act.put, List.setIfInBounds_toArray, List.set_cons_zero, List.set_cons_succ, List.drop_zero, List.drop_succ_cons, List.take_succ_cons, List.take_zero, setL])
    | (go_at_call 34; refine (New34_any _).mono ?_; rintro e w1 ⟨o, r, rfl, S2⟩; replace S := S.call S2; clear S2; simp only [List.cons_append, List.nil_append] at S; (try dsimp only))
    | ((fail_if_success (show Code.wp _ (Code.block 0 _) _ _ _)); go_step))
  go_cut [7] from 23 (fun _ wc => ∃ (k : Nat) (cur : Nat → Option Stp) (last : List Int) (th : List Bool) (md : List Int) (M : Tolds) (c : Nat), k ≤ 40 ∧ Inv l k cur last th md M c ∧ St Nil w wc [cb bl (last.map (Value.int .i64)) 3, cb bm (md.map (Value.int .u32)) 29, cb bt (th.map Value.bool) 4, cb o [.map (some r)] 98, mp keyE Ch.val r M c])
  case first =>
    repeat' (first
      | go_big_hide
      | go_big_move
      | go_big_cond
      | go_big_open
      | (show wpList _ _ _ (⟨_, _, _, _, _, some _⟩ :: _) _ _; first | (refine wpList_g rfl ?_ ?_ <;> (intro hc; (try simp only [Bool.not_true, Bool.not_false, reduceCtorEq] at hc); (try (change True at hc; clear hc)); (try simp only [hc, Bool.not_true, Bool.not_false]); (try simp only [Act.put, List.setIfInBounds_toArray, List.set_cons_zero, List.set_cons_succ, List.drop_zero, List.drop_succ_cons, List.take_succ_cons, List.take_zero, setL]))) | (refine wpList_g0 rfl ?_; (try simp only [Act.put, List.setIfInBounds_toArray, List.set_cons_zero, List.set_cons_succ, List.drop_zero, List.drop_succ_cons, List.take_succ_cons, List.take_zero, setL])))
      | (show Oper.wp _ _ _ _ _ _; (first | (show Oper.wp _ ⟨_, .alloc _, _, _, _, _⟩ _ _ _ _; refine wp_alloc S rfl ?_; clear S; intro b w1 S; (try simp only [Value.cells, List.toList_toArray] at S)) | (show Oper.wp _ ⟨_, .load _ _, _, _, _, _⟩ _ _ _ _; refine wp_load1 S rfl (by with_reducible (repeat (first | exact Has.head | refine Has.tail ?_))) rfl ?_) | (show Oper.wp _ ⟨_, .load _ _, _, _, _, _⟩ _ _ _ _; refine wp_loadN S rfl (by with_reducible (repeat (first | exact Has.head | refine Has.tail ?_))) rfl rfl ?_) | (show Oper.wp _ ⟨_, .store _ _ _, _, _, _, _⟩ _ _ _ _; refine wp_store S rfl rfl rfl (by with_reducible (repeat (first | exact Upd.head | apply Upd.tail))) (by first | exact .inl (Nat.le_refl _) | exact .inr (Nat.le_refl _)) rfl rfl rfl rfl ?_; clear S; intro w1 S; simp only [List.set_cons_zero, List.set_cons_succ, setL, Act.eval, Array.getD_eq_getD_getElem?, List.getElem?_toArray, List.getElem?_cons_succ, List.getElem?_cons_zero, Option.getD_some] at S) | (show Oper.wp _ ⟨_, .binOp .eql _ _ _ _, _, _, _, _⟩ _ _ _ _; refine wp_eqAgg rfl rfl rfl rfl ?_; simp only [eqCells, eqVal, Bool.and_true]) | (show Oper.wp _ ⟨_, .binOp .neq _ _ _ _, _, _, _, _⟩ _ _ _ _; refine wp_neAgg rfl rfl rfl rfl ?_; simp only [eqCells, eqVal, Bool.and_true])) <;> simp only [Act.put, List.setIfInBounds_toArray, List.set_cons_zero, List.set_cons_succ, List.drop_zero, List.drop_succ_cons, List.take_succ_cons, List.take_zero, setL])
      | go_step)
    go_loopw [7] (fun i wr => ∃ (k : Nat) (cur : Nat → Option Stp) (last : List Int) (th : List Bool) (md : List Int) (M : Tolds) (c : Nat), k ≤ 40 ∧ k ≤ l.length ∧ i = .int .i64 k ∧ Inv l k cur last th md M c ∧
        St Nil w wr [cb bl (last.map (Value.int .i64)) 3, cb bm (md.map (Value.int .u32)) 29, cb bt (th.map Value.bool) 4, cb o [.map (some r)] 98, mp keyE Ch.val r M c]) (fun i _ => 40 - (intOf i).toNat)
    case atStart => exact ⟨0, _, _, _, _, _, _, by omega, by omega, rfl, Inv.init l, S⟩
    case round =>
      clear S
      obtain ⟨k, cur, last, th, md, M, c, hk, hkl, rfl, hI, S⟩ := hrel
      by_cases hlt : k < l.length ∧ k < 40
      · obtain ⟨h1, h2⟩ := hlt
        obtain ⟨bs, o3, rfl, hbs0, hcs⟩ := hrow (by omega)
        clear hrow
        have hs := hok l[k] (List.getElem_mem h1)
        have hlk : l[k]? = some l[k] := by simp [h1]
        have hfl : ∀ j u, (l[k].cells)[j]? = some u → (l.map Stp.cells).flatten[k * 3 + j]? = some u := fun j u hj => flat_part (enc := Stp.cells) (fun _ => rfl) l k j l[k] u hlk hj
        generalize l[k] = s at *
        obtain ⟨a, ids, med⟩ := s
        obtain ⟨⟨ha0, ha1⟩, ⟨hi0, hi1⟩, hm0, hm1⟩ := hs
        simp only at ha0 ha1 hi0 hi1 hm0 hm1
        have hcell : ∀ W : World, W.heap[bs]? = w.heap[bs]? → ∀ j u, (Stp.cells ⟨a, ids, med⟩)[j]? = some u → W.cell? ⟨bs, o3 + k * 3 + j, none⟩ = some u := fun W hW j u hj => (cell_eq hW).trans (by rw [Nat.add_assoc]; exact hcs _ _ (hfl j u hj))
        have HC := Lib.hid hcell; clear hcell hcs hfl
        have hsl : decide (slot ⟨a, ids, med⟩ + 1 ≤ (last.map (Value.int .i64)).length) = true := by rw [List.length_map, hI.llen]; exact decide_eq_true (slot_lt _)
        have HS := Lib.hid hsl; clear hsl
        have HL := Lib.hid hlk; clear hlk
        repeat' (first
          | go_big_hide
          | go_big_move
          | go_big_cond
          | go_big_open
          | (show Oper.wp _ ⟨_, .indexAddr _ _ _, _, _, _, _⟩ _ _ _ _; refine wp_indexAddr (i := (k : Int)) (q := o3 + k * 3) rfl rfl (by omega) (by omega) (by simp) ?_; simp only [Act.put, List.setIfInBounds_toArray, List.set_cons_zero, List.set_cons_succ])
          | (show Oper.wp _ ⟨_, .load _ _, _, _, _, _⟩ _ _ _ _; refine wp_load1_at (off := o3 + k * 3) rfl (HC.out _ (S.mod.block bs hbs0 (fun h => h)) 0 _ rfl) ?_; simp only [Act.put, List.setIfInBounds_toArray, List.set_cons_zero, List.set_cons_succ])
          | (show Oper.wp _ ⟨_, .indexAddr _ _ _, _, _, _, _⟩ _ _ _ _; refine wp_indexAddr (i := a % 6) (q := slot ⟨a, ids, med⟩) rfl rfl (by omega) (by omega) (by simp [slot]) ?_; simp only [Act.put, List.setIfInBounds_toArray, List.set_cons_zero, List.set_cons_succ])
          | (show Oper.wp _ ⟨_, .store _ _ _, _, _, _, _⟩ _ _ _ _; refine wp_store S rfl rfl rfl Upd.head (.inl (Nat.le_refl _)) rfl (set_map (Value.int .i64) last _ _) HS.out rfl ?_; clear S; intro w1 S; simp only [Act.put, List.setIfInBounds_toArray, List.set_cons_zero, List.set_cons_succ])
          | (show wpList _ _ _ (⟨_, _, _, _, _, some _⟩ :: _) _ _; first | (refine wpList_g rfl ?_ ?_ <;> (intro hc; (try simp only [Bool.not_true, Bool.not_false, reduceCtorEq] at hc); (try (change True at hc; clear hc)); (try simp only [hc, Bool.not_true, Bool.not_false]); (try simp only [Act.put, List.setIfInBounds_toArray, List.set_cons_zero, List.set_cons_succ, List.drop_zero, List.drop_succ_cons, List.take_succ_cons, List.take_zero, setL]))) | (refine wpList_g0 rfl ?_; (try simp only [Act.put, List.setIfInBounds_toArray, List.set_cons_zero, List.set_cons_succ, List.drop_zero, List.drop_succ_cons, List.take_succ_cons, List.take_zero, setL])))
          | (show Oper.wp _ _ _ _ _ _; (first | (show Oper.wp _ ⟨_, .alloc _, _, _, _, _⟩ _ _ _ _; refine wp_alloc S rfl ?_; clear S; intro b w1 S; (try simp only [Value.cells, List.toList_toArray] at S)) | (show Oper.wp _ ⟨_, .load _ _, _, _, _, _⟩ _ _ _ _; refine wp_load1 S rfl (by with_reducible (repeat (first | exact Has.head | refine Has.tail ?_))) rfl ?_) | (show Oper.wp _ ⟨_, .load _ _, _, _, _, _⟩ _ _ _ _; refine wp_loadN S rfl (by with_reducible (repeat (first | exact Has.head | refine Has.tail ?_))) rfl rfl ?_) | (show Oper.wp _ ⟨_, .store _ _ _, _, _, _, _⟩ _ _ _ _; refine wp_store S rfl rfl rfl (by with_reducible (repeat (first | exact Upd.head | apply Upd.tail))) (by first | exact .inl (Nat.le_refl _) | exact .inr (Nat.le_refl _)) rfl rfl rfl rfl ?_; clear S; intro w1 S; simp only [List.set_cons_zero, List.set_cons_succ, setL, Act.eval, Array.getD_eq_getD_getElem?, List.getElem?_toArray, List.getElem?_cons_succ, List.getElem?_cons_zero, Option.getD_some] at S) | (show Oper.wp _ ⟨_, .binOp .eql _ _ _ _, _, _, _, _⟩ _ _ _ _; refine wp_eqAgg rfl rfl rfl rfl ?_; simp only [eqCells, eqVal, Bool.and_true]) | (show Oper.wp _ ⟨_, .binOp .neq _ _ _ _, _, _, _, _⟩ _ _ _ _; refine wp_neAgg rfl rfl rfl rfl ?_; simp only [eqCells, eqVal, Bool.and_true])) <;> simp only [Act.put, List.setIfInBounds_toArray, List.set_cons_zero, List.set_cons_succ, List.drop_zero, List.drop_succ_cons, List.take_succ_cons, List.take_zero, setL])
          | go_step)
        have hso : Stp.ok ⟨a, ids, med⟩ := ⟨⟨ha0, ha1⟩, ⟨hi0, hi1⟩, hm0, hm1⟩
        refine wp_region_XG [(14, 15), (15, 16)] (fun w' => St Nil w w' _) (fun v w' => St Nil w w' (ow v 84 23 (wantTo ⟨a, ids, med⟩ 4).length ((wantTo ⟨a, ids, med⟩ 4).map Ch.cells).flatten :: S.lst)) 11 mixed (by kernel_rfl) (fun d _ _ _ _ h => by cases d <;> exact h) (by kernel_rfl) S.drew rfl ?_
        simp only [St.lst, edgesL, edgeL, addE, List.modify_succ_cons, List.modify_zero_cons, List.push_toArray, List.cons_append, List.nil_append, List.take_succ_cons, List.take_zero, List.drop_succ_cons, List.drop_zero, List.zipIdx_cons, List.zipIdx_nil, List.map_cons, List.map_nil]
        clear S
        repeat' (first
          | (apply HX_pure rfl rfl
             case h =>
               intro wz S K hK
               repeat' (first
                 | (go_at_K; exact hK)
                 | go_big_hide
                 | go_big_move
                 | go_big_cond
                 | go_big_open
                 | (show Oper.wp _ ⟨_, .indexAddr _ _ _, _, _, _, _⟩ _ _ _ _; refine wp_indexAddr (i := (k : Int)) (q := o3 + k * 3) rfl rfl (by omega) (by omega) (by simp) ?_; simp only [Act.put, List.setIfInBounds_toArray, List.set_cons_zero, List.set_cons_succ])
                 | (show Oper.wp _ ⟨_, .load _ _, _, _, _, _⟩ _ _ _ _; refine wp_load1_at (off := o3 + k * 3) rfl (HC.out _ (S.mod.block bs hbs0 (fun h => h)) 0 _ rfl) ?_; simp only [Act.put, List.setIfInBounds_toArray, List.set_cons_zero, List.set_cons_succ])
                 | (show Oper.wp _ ⟨_, .load _ _, _, _, _, _⟩ _ _ _ _; refine wp_loadN_at (off := o3 + k * 3) rfl rfl (HC.out _ (S.mod.block bs hbs0 (fun h => h))) ?_; simp only [Act.put, List.setIfInBounds_toArray, List.set_cons_zero, List.set_cons_succ])
                 | (show Oper.wp _ _ _ _ _ _; (first | (show Oper.wp _ ⟨_, .alloc _, _, _, _, _⟩ _ _ _ _; refine wp_alloc S rfl ?_; clear S; intro b w1 S; (try simp only [Value.cells, List.toList_toArray] at S)) | (show Oper.wp _ ⟨_, .load _ _, _, _, _, _⟩ _ _ _ _; refine wp_load1 S rfl (by with_reducible (repeat (first | exact Has.head | refine Has.tail ?_))) rfl ?_) | (show Oper.wp _ ⟨_, .load _ _, _, _, _, _⟩ _ _ _ _; refine wp_loadN S rfl (by with_reducible (repeat (first | exact Has.head | refine Has.tail ?_))) rfl rfl ?_) | (show Oper.wp _ ⟨_, .store _ _ _, _, _, _, _⟩ _ _ _ _; refine wp_store S rfl rfl rfl (by with_reducible (repeat (first | exact Upd.head | apply Upd.tail))) (by first | exact .inl (Nat.le_refl _) | exact .inr (Nat.le_refl _)) rfl rfl rfl rfl ?_; clear S; intro w1 S; simp only [List.set_cons_zero, List.set_cons_succ, setL, Act.eval, Array.getD_eq_getD_getElem?, List.getElem?_toArray, List.getElem?_cons_succ, List.getElem?_cons_zero, Option.getD_some] at S) | (show Oper.wp _ ⟨_, .binOp .eql _ _ _ _, _, _, _, _⟩ _ _ _ _; refine wp_eqAgg rfl rfl rfl rfl ?_; simp only [eqCells, eqVal, Bool.and_true]) | (show Oper.wp _ ⟨_, .binOp .neq _ _ _ _, _, _, _, _⟩ _ _ _ _; refine wp_neAgg rfl rfl rfl rfl ?_; simp only [eqCells, eqVal, Bool.and_true])))
                 | (go_at_call 36; refine (prefix36_any a _ ha0 ha1).mono ?_; rintro e w1 ⟨rfl, hm⟩; replace S := S.step hm; (try dsimp only))
                 | go_step)
             simp only [Act.put, List.setIfInBounds_toArray, List.set_cons_zero, List.set_cons_succ, List.drop_zero, List.drop_succ_cons, List.take_succ_cons, List.take_zero, setL])
          | (apply HX_op (by kernel_rfl) rfl rfl
             case' h =>
               intro wz S K hK
               repeat' (first
                 | (go_at_K; exact hK _ S)
                 | go_big_hide
                 | go_big_move
                 | go_big_cond
                 | go_big_open
                 | (show Oper.wp _ ⟨_, .indexAddr _ _ _, _, _, _, _⟩ _ _ _ _; refine wp_indexAddr (i := (k : Int)) (q := o3 + k * 3) rfl rfl (by omega) (by omega) (by simp) ?_; simp only [Act.put, List.setIfInBounds_toArray, List.set_cons_zero, List.set_cons_succ])
                 | (show Oper.wp _ ⟨_, .load _ _, _, _, _, _⟩ _ _ _ _; refine wp_load1_at (off := o3 + k * 3) rfl (HC.out _ (S.mod.block bs hbs0 (fun h => h)) 0 _ rfl) ?_; simp only [Act.put, List.setIfInBounds_toArray, List.set_cons_zero, List.set_cons_succ])
                 | (show Oper.wp _ ⟨_, .load _ _, _, _, _, _⟩ _ _ _ _; refine wp_loadN_at (off := o3 + k * 3) rfl rfl (HC.out _ (S.mod.block bs hbs0 (fun h => h))) ?_; simp only [Act.put, List.setIfInBounds_toArray, List.set_cons_zero, List.set_cons_succ])
                 | (show Oper.wp _ _ _ _ _ _; (first | (show Oper.wp _ ⟨_, .alloc _, _, _, _, _⟩ _ _ _ _; refine wp_alloc S rfl ?_; clear S; intro b w1 S; (try simp only [Value.cells, List.toList_toArray] at S)) | (show Oper.wp _ ⟨_, .load _ _, _, _, _, _⟩ _ _ _ _; refine wp_load1 S rfl (by with_reducible (repeat (first | exact Has.head | refine Has.tail ?_))) rfl ?_) | (show Oper.wp _ ⟨_, .load _ _, _, _, _, _⟩ _ _ _ _; refine wp_loadN S rfl (by with_reducible (repeat (first | exact Has.head | refine Has.tail ?_))) rfl rfl ?_) | (show Oper.wp _ ⟨_, .store _ _ _, _, _, _, _⟩ _ _ _ _; refine wp_store S rfl rfl rfl (by with_reducible (repeat (first | exact Upd.head | apply Upd.tail))) (by first | exact .inl (Nat.le_refl _) | exact .inr (Nat.le_refl _)) rfl rfl rfl rfl ?_; clear S; intro w1 S; simp only [List.set_cons_zero, List.set_cons_succ, setL, Act.eval, Array.getD_eq_getD_getElem?, List.getElem?_toArray, List.getElem?_cons_succ, List.getElem?_cons_zero, Option.getD_some] at S) | (show Oper.wp _ ⟨_, .binOp .eql _ _ _ _, _, _, _, _⟩ _ _ _ _; refine wp_eqAgg rfl rfl rfl rfl ?_; simp only [eqCells, eqVal, Bool.and_true]) | (show Oper.wp _ ⟨_, .binOp .neq _ _ _ _, _, _, _, _⟩ _ _ _ _; refine wp_neAgg rfl rfl rfl rfl ?_; simp only [eqCells, eqVal, Bool.and_true])))
                 | (go_at_call 36; refine (prefix36_any a _ ha0 ha1).mono ?_; rintro e w1 ⟨rfl, hm⟩; replace S := S.step hm; (try dsimp only))
                 | go_step)
             simp only [Act.put, List.setIfInBounds_toArray, List.set_cons_zero, List.set_cons_succ, List.drop_zero, List.drop_succ_cons, List.take_succ_cons, List.take_zero, setL])
          | (refine HX_skip rfl ?_; simp only [Act.put, List.setIfInBounds_toArray, List.set_cons_zero, List.set_cons_succ, List.drop_zero, List.drop_succ_cons, List.take_succ_cons, List.take_zero, setL])
          | (refine HX_last rfl (Nat.le_of_ble_eq_true rfl) (by intro wz S K hK; go_step; go_at_call 37; refine (wanted37_any ⟨a, ids, med⟩ _ hso).mono ?_; rintro e w1 ⟨v, rfl, S2⟩; exact hK _ _ (S.step S2.mod) (S.call S2)) ?_; intro vz wz S hpsi; clear S; have S : St Nil w wz _ := hpsi; clear hpsi; simp only [Act.put, List.setIfInBounds_toArray, List.set_cons_zero, List.set_cons_succ, List.drop_zero, List.drop_succ_cons, List.take_succ_cons, List.take_zero, setL])
          | (refine HX_by rfl rfl ?_ ?_ <;> (intro hc; simp only [hc, Bool.not_true, Bool.not_false])))
        repeat' (first
          | go_big_hide
          | go_big_move
          | go_big_cond
          | go_big_open
          | (show wpList _ _ _ (⟨_, _, _, _, _, some _⟩ :: _) _ _; first | (refine wpList_g rfl ?_ ?_ <;> (intro hc; (try simp only [Bool.not_true, Bool.not_false, reduceCtorEq] at hc); (try (change True at hc; clear hc)); (try simp only [hc, Bool.not_true, Bool.not_false]); (try simp only [Act.put, List.setIfInBounds_toArray, List.set_cons_zero, List.set_cons_succ, List.drop_zero, List.drop_succ_cons, List.take_succ_cons, List.take_zero, setL]))) | (refine wpList_g0 rfl ?_; (try simp only [Act.put, List.setIfInBounds_toArray, List.set_cons_zero, List.set_cons_succ, List.drop_zero, List.drop_succ_cons, List.take_succ_cons, List.take_zero, setL])))
          | (show Oper.wp _ _ _ _ _ _; (first | (show Oper.wp _ ⟨_, .alloc _, _, _, _, _⟩ _ _ _ _; refine wp_alloc S rfl ?_; clear S; intro b w1 S; (try simp only [Value.cells, List.toList_toArray] at S)) | (show Oper.wp _ ⟨_, .load _ _, _, _, _, _⟩ _ _ _ _; refine wp_load1 S rfl (by with_reducible (repeat (first | exact Has.head | refine Has.tail ?_))) rfl ?_) | (show Oper.wp _ ⟨_, .load _ _, _, _, _, _⟩ _ _ _ _; refine wp_loadN S rfl (by with_reducible (repeat (first | exact Has.head | refine Has.tail ?_))) rfl rfl ?_) | (show Oper.wp _ ⟨_, .store _ _ _, _, _, _, _⟩ _ _ _ _; refine wp_store S rfl rfl rfl (by with_reducible (repeat (first | exact Upd.head | apply Upd.tail))) (by first | exact .inl (Nat.le_refl _) | exact .inr (Nat.le_refl _)) rfl rfl rfl rfl ?_; clear S; intro w1 S; simp only [List.set_cons_zero, List.set_cons_succ, setL, Act.eval, Array.getD_eq_getD_getElem?, List.getElem?_toArray, List.getElem?_cons_succ, List.getElem?_cons_zero, Option.getD_some] at S) | (show Oper.wp _ ⟨_, .binOp .eql _ _ _ _, _, _, _, _⟩ _ _ _ _; refine wp_eqAgg rfl rfl rfl rfl ?_; simp only [eqCells, eqVal, Bool.and_true]) | (show Oper.wp _ ⟨_, .binOp .neq _ _ _ _, _, _, _, _⟩ _ _ _ _; refine wp_neAgg rfl rfl rfl rfl ?_; simp only [eqCells, eqVal, Bool.and_true])) <;> simp only [Act.put, List.setIfInBounds_toArray, List.set_cons_zero, List.set_cons_succ, List.drop_zero, List.drop_succ_cons, List.take_succ_cons, List.take_zero, setL])
          | go_step)
        have hML := hI.len
        refine (Want_good (p := pfx a) (l := wantTo ⟨a, ids, med⟩ 4) S (Out.tail (Out.tail (Out.tail (Out.tail (Out.tail (Out.head)))))) (Has.tail (Has.tail (Has.tail (Has.tail (Has.head))))) hI.wf (by omega) (Nat.le_trans (wantTo_len _ _) (by omega)) hI.ok (pfx_ok a) (want_may hso) (row_ow S (Out.tail (Out.tail (Out.tail (Out.tail (Out.tail (Out.head)))))) (Out.tail (Out.tail (Out.tail (Out.tail (Out.head))))) (Has.head)) (by have h1 := wantTo_len ⟨a, ids, med⟩ 4; have h2 := List.length_filter_le (fun e : (Pfx × Int) × Ch × Nat => !decide (e.1.1 = pfx a)) M; omega) (by have := pfx_alen a; omega) (by intro x hx; obtain ⟨j, _, _, rfl⟩ := mem_wantTo.1 hx; have := pfx_alen a; exact Nat.lt_of_le_of_lt this (by decide))).mono ?_
        rintro e w1 ⟨vo, out, M', c', rfl, S', hwf', hT', hkv', hout, hsort⟩
        replace S := S'; clear S'
        dsimp only
        have hnd := outs_nodup hI.wf hI.ok (want_may hso) hout
        have hps : ∀ x ∈ out, x.n.p = pfx a := fun x hx => by obtain ⟨_, _, h, _⟩ := hI.outs (s := ⟨a, ids, med⟩) hout x hx; exact h
        have hasc := asc_of (s := ⟨a, ids, med⟩) hsort hnd hps
        obtain ⟨po, co, rfl, -⟩ := RowIn.of_ow (X := fun _ => True) (S.get Has.head) (fun _ _ => trivial)
        repeat' (first
          | go_big_hide
          | go_big_move
          | go_big_cond
          | go_big_open
          | (show wpList _ _ _ (⟨_, _, _, _, _, some _⟩ :: _) _ _; first | (refine wpList_g rfl ?_ ?_ <;> (intro hc; (try simp only [Bool.not_true, Bool.not_false, reduceCtorEq] at hc); (try (change True at hc; clear hc)); (try simp only [hc, Bool.not_true, Bool.not_false]); (try simp only [Act.put, List.setIfInBounds_toArray, List.set_cons_zero, List.set_cons_succ, List.drop_zero, List.drop_succ_cons, List.take_succ_cons, List.take_zero, setL]))) | (refine wpList_g0 rfl ?_; (try simp only [Act.put, List.setIfInBounds_toArray, List.set_cons_zero, List.set_cons_succ, List.drop_zero, List.drop_succ_cons, List.take_succ_cons, List.take_zero, setL])))
          | (show Oper.wp _ _ _ _ _ _; (first | (show Oper.wp _ ⟨_, .alloc _, _, _, _, _⟩ _ _ _ _; refine wp_alloc S rfl ?_; clear S; intro b w1 S; (try simp only [Value.cells, List.toList_toArray] at S)) | (show Oper.wp _ ⟨_, .load _ _, _, _, _, _⟩ _ _ _ _; refine wp_load1 S rfl (by with_reducible (repeat (first | exact Has.head | refine Has.tail ?_))) rfl ?_) | (show Oper.wp _ ⟨_, .load _ _, _, _, _, _⟩ _ _ _ _; refine wp_loadN S rfl (by with_reducible (repeat (first | exact Has.head | refine Has.tail ?_))) rfl rfl ?_) | (show Oper.wp _ ⟨_, .store _ _ _, _, _, _, _⟩ _ _ _ _; refine wp_store S rfl rfl rfl (by with_reducible (repeat (first | exact Upd.head | apply Upd.tail))) (by first | exact .inl (Nat.le_refl _) | exact .inr (Nat.le_refl _)) rfl rfl rfl rfl ?_; clear S; intro w1 S; simp only [List.set_cons_zero, List.set_cons_succ, setL, Act.eval, Array.getD_eq_getD_getElem?, List.getElem?_toArray, List.getElem?_cons_succ, List.getElem?_cons_zero, Option.getD_some] at S) | (show Oper.wp _ ⟨_, .binOp .eql _ _ _ _, _, _, _, _⟩ _ _ _ _; refine wp_eqAgg rfl rfl rfl rfl ?_; simp only [eqCells, eqVal, Bool.and_true]) | (show Oper.wp _ ⟨_, .binOp .neq _ _ _ _, _, _, _, _⟩ _ _ _ _; refine wp_neAgg rfl rfl rfl rfl ?_; simp only [eqCells, eqVal, Bool.and_true])) <;> simp only [Act.put, List.setIfInBounds_toArray, List.set_cons_zero, List.set_cons_succ, List.drop_zero, List.drop_succ_cons, List.take_succ_cons, List.take_zero, setL])
          | go_step)
        refine outLoop h1 hk hl hI hbs0 ha0 ha1 hi0 hi1 HC hout hps hasc (S.sub (List.Sublist.cons_cons _ (List.Sublist.cons_cons _ (List.Sublist.cons _ (List.Sublist.refl _))))) ?_
        clear S
        intro wx S
        intros
        have hI2 := hI.step HL.out hso hkv' hT' hwf' hout hasc
        have HI2 := Lib.hid hI2
        clear hI hI2 hout hasc hps hsort hnd hkv' hT' hwf'
        repeat' (first
          | go_big_hide
          | go_big_move
          | go_big_cond
          | go_big_open
          | (show wpList _ _ _ (⟨_, _, _, _, _, some _⟩ :: _) _ _; first | (refine wpList_g rfl ?_ ?_ <;> (intro hc; (try simp only [Bool.not_true, Bool.not_false, reduceCtorEq] at hc); (try (change True at hc; clear hc)); (try simp only [hc, Bool.not_true, Bool.not_false]); (try simp only [Act.put, List.setIfInBounds_toArray, List.set_cons_zero, List.set_cons_succ, List.drop_zero, List.drop_succ_cons, List.take_succ_cons, List.take_zero, setL]))) | (refine wpList_g0 rfl ?_; (try simp only [Act.put, List.setIfInBounds_toArray, List.set_cons_zero, List.set_cons_succ, List.drop_zero, List.drop_succ_cons, List.take_succ_cons, List.take_zero, setL])))
          | (show Oper.wp _ _ _ _ _ _; (first | (show Oper.wp _ ⟨_, .alloc _, _, _, _, _⟩ _ _ _ _; refine wp_alloc S rfl ?_; clear S; intro b w1 S; (try simp only [Value.cells, List.toList_toArray] at S)) | (show Oper.wp _ ⟨_, .load _ _, _, _, _, _⟩ _ _ _ _; refine wp_load1 S rfl (by with_reducible (repeat (first | exact Has.head | refine Has.tail ?_))) rfl ?_) | (show Oper.wp _ ⟨_, .load _ _, _, _, _, _⟩ _ _ _ _; refine wp_loadN S rfl (by with_reducible (repeat (first | exact Has.head | refine Has.tail ?_))) rfl rfl ?_) | (show Oper.wp _ ⟨_, .store _ _ _, _, _, _, _⟩ _ _ _ _; refine wp_store S rfl rfl rfl (by with_reducible (repeat (first | exact Upd.head | apply Upd.tail))) (by first | exact .inl (Nat.le_refl _) | exact .inr (Nat.le_refl _)) rfl rfl rfl rfl ?_; clear S; intro w1 S; simp only [List.set_cons_zero, List.set_cons_succ, setL, Act.eval, Array.getD_eq_getD_getElem?, List.getElem?_toArray, List.getElem?_cons_succ, List.getElem?_cons_zero, Option.getD_some] at S) | (show Oper.wp _ ⟨_, .binOp .eql _ _ _ _, _, _, _, _⟩ _ _ _ _; refine wp_eqAgg rfl rfl rfl rfl ?_; simp only [eqCells, eqVal, Bool.and_true]) | (show Oper.wp _ ⟨_, .binOp .neq _ _ _ _, _, _, _, _⟩ _ _ _ _; refine wp_neAgg rfl rfl rfl rfl ?_; simp only [eqCells, eqVal, Bool.and_true])) <;> simp only [Act.put, List.setIfInBounds_toArray, List.set_cons_zero, List.set_cons_succ, List.drop_zero, List.drop_succ_cons, List.take_succ_cons, List.take_zero, setL])
          | go_step)
        go_roundw
        case rel => exact ⟨k + 1, _, _, _, _, _, _, by omega, by omega, by go_num, HI2.out, (S.sub (List.Sublist.cons _ (List.Sublist.refl _))).perm (List.perm_append_comm (l₁ := [_]))⟩
        case measure => simp [intOf]; omega
      · have hkk : ¬ ((k : Int) < (l.length : Int) ∧ (k : Int) < 40) := by omega
        by_cases h40 : k < 40
        · have hkl2 : k = l.length := by omega
          subst hkl2
          repeat' (first
            | go_big_hide
            | go_big_move
            | go_big_cond
            | go_big_open
            | (show wpList _ _ _ (⟨_, _, _, _, _, some _⟩ :: _) _ _; first | (refine wpList_g rfl ?_ ?_ <;> (intro hc; (try simp only [Bool.not_true, Bool.not_false, reduceCtorEq] at hc); (try (change True at hc; clear hc)); (try simp only [hc, Bool.not_true, Bool.not_false]); (try simp only [Act.put, List.setIfInBounds_toArray, List.set_cons_zero, List.set_cons_succ, List.drop_zero, List.drop_succ_cons, List.take_succ_cons, List.take_zero, setL]))) | (refine wpList_g0 rfl ?_; (try simp only [Act.put, List.setIfInBounds_toArray, List.set_cons_zero, List.set_cons_succ, List.drop_zero, List.drop_succ_cons, List.take_succ_cons, List.take_zero, setL])))
            | (show Oper.wp _ _ _ _ _ _; (first | (show Oper.wp _ ⟨_, .alloc _, _, _, _, _⟩ _ _ _ _; refine wp_alloc S rfl ?_; clear S; intro b w1 S; (try simp only [Value.cells, List.toList_toArray] at S)) | (show Oper.wp _ ⟨_, .load _ _, _, _, _, _⟩ _ _ _ _; refine wp_load1 S rfl (by with_reducible (repeat (first | exact Has.head | refine Has.tail ?_))) rfl ?_) | (show Oper.wp _ ⟨_, .load _ _, _, _, _, _⟩ _ _ _ _; refine wp_loadN S rfl (by with_reducible (repeat (first | exact Has.head | refine Has.tail ?_))) rfl rfl ?_) | (show Oper.wp _ ⟨_, .store _ _ _, _, _, _, _⟩ _ _ _ _; refine wp_store S rfl rfl rfl (by with_reducible (repeat (first | exact Upd.head | apply Upd.tail))) (by first | exact .inl (Nat.le_refl _) | exact .inr (Nat.le_refl _)) rfl rfl rfl rfl ?_; clear S; intro w1 S; simp only [List.set_cons_zero, List.set_cons_succ, setL, Act.eval, Array.getD_eq_getD_getElem?, List.getElem?_toArray, List.getElem?_cons_succ, List.getElem?_cons_zero, Option.getD_some] at S) | (show Oper.wp _ ⟨_, .binOp .eql _ _ _ _, _, _, _, _⟩ _ _ _ _; refine wp_eqAgg rfl rfl rfl rfl ?_; simp only [eqCells, eqVal, Bool.and_true]) | (show Oper.wp _ ⟨_, .binOp .neq _ _ _ _, _, _, _, _⟩ _ _ _ _; refine wp_neAgg rfl rfl rfl rfl ?_; simp only [eqCells, eqVal, Bool.and_true])) <;> simp only [Act.put, List.setIfInBounds_toArray, List.set_cons_zero, List.set_cons_succ, List.drop_zero, List.drop_succ_cons, List.take_succ_cons, List.take_zero, setL])
            | go_step)
          go_meet
          case rel => exact ⟨_, _, _, _, _, _, _, hk, hI, S⟩
        · have hk40 : decide (k < l.length) = decide (k < l.length) := rfl
          repeat' (first
            | go_big_hide
            | go_big_move
            | go_big_cond
            | go_big_open
            | (show wpList _ _ _ (⟨_, _, _, _, _, some _⟩ :: _) _ _; first | (refine wpList_g rfl ?_ ?_ <;> (intro hc; (try simp only [Bool.not_true, Bool.not_false, reduceCtorEq] at hc); (try (change True at hc; clear hc)); (try simp only [hc, Bool.not_true, Bool.not_false]); (try simp only [Act.put, List.setIfInBounds_toArray, List.set_cons_zero, List.set_cons_succ, List.drop_zero, List.drop_succ_cons, List.take_succ_cons, List.take_zero, setL]))) | (refine wpList_g0 rfl ?_; (try simp only [Act.put, List.setIfInBounds_toArray, List.set_cons_zero, List.set_cons_succ, List.drop_zero, List.drop_succ_cons, List.take_succ_cons, List.take_zero, setL])))
            | (show Oper.wp _ _ _ _ _ _; (first | (show Oper.wp _ ⟨_, .alloc _, _, _, _, _⟩ _ _ _ _; refine wp_alloc S rfl ?_; clear S; intro b w1 S; (try simp only [Value.cells, List.toList_toArray] at S)) | (show Oper.wp _ ⟨_, .load _ _, _, _, _, _⟩ _ _ _ _; refine wp_load1 S rfl (by with_reducible (repeat (first | exact Has.head | refine Has.tail ?_))) rfl ?_) | (show Oper.wp _ ⟨_, .load _ _, _, _, _, _⟩ _ _ _ _; refine wp_loadN S rfl (by with_reducible (repeat (first | exact Has.head | refine Has.tail ?_))) rfl rfl ?_) | (show Oper.wp _ ⟨_, .store _ _ _, _, _, _, _⟩ _ _ _ _; refine wp_store S rfl rfl rfl (by with_reducible (repeat (first | exact Upd.head | apply Upd.tail))) (by first | exact .inl (Nat.le_refl _) | exact .inr (Nat.le_refl _)) rfl rfl rfl rfl ?_; clear S; intro w1 S; simp only [List.set_cons_zero, List.set_cons_succ, setL, Act.eval, Array.getD_eq_getD_getElem?, List.getElem?_toArray, List.getElem?_cons_succ, List.getElem?_cons_zero, Option.getD_some] at S) | (show Oper.wp _ ⟨_, .binOp .eql _ _ _ _, _, _, _, _⟩ _ _ _ _; refine wp_eqAgg rfl rfl rfl rfl ?_; simp only [eqCells, eqVal, Bool.and_true]) | (show Oper.wp _ ⟨_, .binOp .neq _ _ _ _, _, _, _, _⟩ _ _ _ _; refine wp_neAgg rfl rfl rfl rfl ?_; simp only [eqCells, eqVal, Bool.and_true])) <;> simp only [Act.put, List.setIfInBounds_toArray, List.set_cons_zero, List.set_cons_succ, List.drop_zero, List.drop_succ_cons, List.take_succ_cons, List.take_zero, setL])
            | go_step)
          all_goals (first | omega | (go_meet; case rel => exact ⟨_, _, _, _, _, _, _, hk, hI, S⟩))
  case rest =>
    clear S
    obtain ⟨k, cur, last, th, md, M, c, hk40, hI, S⟩ := hcut
    have hML := hI.len
    repeat' (first
      | go_big_hide
      | go_big_move
      | go_big_cond
      | go_big_open
      | (show wpList _ _ _ (⟨_, _, _, _, _, some _⟩ :: _) _ _; first | (refine wpList_g rfl ?_ ?_ <;> (intro hc; (try simp only [Bool.not_true, Bool.not_false, reduceCtorEq] at hc); (try (change True at hc; clear hc)); (try simp only [hc, Bool.not_true, Bool.not_false]); (try simp only [Act.put, List.setIfInBounds_toArray, List.set_cons_zero, List.set_cons_succ, List.drop_zero, List.drop_succ_cons, List.take_succ_cons, List.take_zero, setL]))) | (refine wpList_g0 rfl ?_; (try simp only [Act.put, List.setIfInBounds_toArray, List.set_cons_zero, List.set_cons_succ, List.drop_zero, List.drop_succ_cons, List.take_succ_cons, List.take_zero, setL])))
      | (show Oper.wp _ _ _ _ _ _; (first | (show Oper.wp _ ⟨_, .alloc _, _, _, _, _⟩ _ _ _ _; refine wp_alloc S rfl ?_; clear S; intro b w1 S; (try simp only [Value.cells, List.toList_toArray] at S)) | (show Oper.wp _ ⟨_, .load _ _, _, _, _, _⟩ _ _ _ _; refine wp_load1 S rfl (by with_reducible (repeat (first | exact Has.head | refine Has.tail ?_))) rfl ?_) | (show Oper.wp _ ⟨_, .load _ _, _, _, _, _⟩ _ _ _ _; refine wp_loadN S rfl (by with_reducible (repeat (first | exact Has.head | refine Has.tail ?_))) rfl rfl ?_) | (show Oper.wp _ ⟨_, .store _ _ _, _, _, _, _⟩ _ _ _ _; refine wp_store S rfl rfl rfl (by with_reducible (repeat (first | exact Upd.head | apply Upd.tail))) (by first | exact .inl (Nat.le_refl _) | exact .inr (Nat.le_refl _)) rfl rfl rfl rfl ?_; clear S; intro w1 S; simp only [List.set_cons_zero, List.set_cons_succ, setL, Act.eval, Array.getD_eq_getD_getElem?, List.getElem?_toArray, List.getElem?_cons_succ, List.getElem?_cons_zero, Option.getD_some] at S) | (show Oper.wp _ ⟨_, .binOp .eql _ _ _ _, _, _, _, _⟩ _ _ _ _; refine wp_eqAgg rfl rfl rfl rfl ?_; simp only [eqCells, eqVal, Bool.and_true]) | (show Oper.wp _ ⟨_, .binOp .neq _ _ _ _, _, _, _, _⟩ _ _ _ _; refine wp_neAgg rfl rfl rfl rfl ?_; simp only [eqCells, eqVal, Bool.and_true])) <;> simp only [Act.put, List.setIfInBounds_toArray, List.set_cons_zero, List.set_cons_succ, List.drop_zero, List.drop_succ_cons, List.take_succ_cons, List.take_zero, setL])
      | go_step)
    refine countLoop hok hl hrow hk40 hI hML S ?_
    clear S
    intro wx S
    intros
    have htot := hI.total
    rw [htot]
    clear htot
    repeat' (first
      | go_big_hide
      | go_big_move
      | go_big_cond
      | go_big_open
      | (show wpList _ _ _ (⟨_, _, _, _, _, some _⟩ :: _) _ _; first | (refine wpList_g rfl ?_ ?_ <;> (intro hc; (try simp only [Bool.not_true, Bool.not_false, reduceCtorEq] at hc); (try (change True at hc; clear hc)); (try simp only [hc, Bool.not_true, Bool.not_false]); (try simp only [Act.put, List.setIfInBounds_toArray, List.set_cons_zero, List.set_cons_succ, List.drop_zero, List.drop_succ_cons, List.take_succ_cons, List.take_zero, setL]))) | (refine wpList_g0 rfl ?_; (try simp only [Act.put, List.setIfInBounds_toArray, List.set_cons_zero, List.set_cons_succ, List.drop_zero, List.drop_succ_cons, List.take_succ_cons, List.take_zero, setL])))
      | (show Oper.wp _ _ _ _ _ _; (first | (show Oper.wp _ ⟨_, .alloc _, _, _, _, _⟩ _ _ _ _; refine wp_alloc S rfl ?_; clear S; intro b w1 S; (try simp only [Value.cells, List.toList_toArray] at S)) | (show Oper.wp _ ⟨_, .load _ _, _, _, _, _⟩ _ _ _ _; refine wp_load1 S rfl (by with_reducible (repeat (first | exact Has.head | refine Has.tail ?_))) rfl ?_) | (show Oper.wp _ ⟨_, .load _ _, _, _, _, _⟩ _ _ _ _; refine wp_loadN S rfl (by with_reducible (repeat (first | exact Has.head | refine Has.tail ?_))) rfl rfl ?_) | (show Oper.wp _ ⟨_, .store _ _ _, _, _, _, _⟩ _ _ _ _; refine wp_store S rfl rfl rfl (by with_reducible (repeat (first | exact Upd.head | apply Upd.tail))) (by first | exact .inl (Nat.le_refl _) | exact .inr (Nat.le_refl _)) rfl rfl rfl rfl ?_; clear S; intro w1 S; simp only [List.set_cons_zero, List.set_cons_succ, setL, Act.eval, Array.getD_eq_getD_getElem?, List.getElem?_toArray, List.getElem?_cons_succ, List.getElem?_cons_zero, Option.getD_some] at S) | (show Oper.wp _ ⟨_, .binOp .eql _ _ _ _, _, _, _, _⟩ _ _ _ _; refine wp_eqAgg rfl rfl rfl rfl ?_; simp only [eqCells, eqVal, Bool.and_true]) | (show Oper.wp _ ⟨_, .binOp .neq _ _ _ _, _, _, _, _⟩ _ _ _ _; refine wp_neAgg rfl rfl rfl rfl ?_; simp only [eqCells, eqVal, Bool.and_true])) <;> simp only [Act.put, List.setIfInBounds_toArray, List.set_cons_zero, List.set_cons_succ, List.drop_zero, List.drop_succ_cons, List.take_succ_cons, List.take_zero, setL])
      | go_step)
    have hne : o ≠ r := fun e => S.ne (Out.tail (Out.tail (Out.tail (Out.tail (Out.head))))) (Has.tail (Has.tail (Has.tail (Has.head)))) o (by simp [cb, blk]) (by simp [mp, blk, e])
    have hwfM := hI.wf
    have hokM := hI.ok
    refine (All38_any o r 0 wx M c hne (S.get (Has.tail (Has.tail (Has.tail (Has.head))))) (S.get (Has.tail (Has.tail (Has.tail (Has.tail (Has.head)))))) hwfM (by omega)).mono ?_
    rintro e w1 ⟨va, L, rfl, S2, hLp, hLs⟩
    replace S := S.call S2; clear S2
    simp only [List.cons_append, List.nil_append] at S
    have hLp2 : L.Perm (M.map (·.2.1)) := by
      have e1 : allOf 0 M = M.map (·.2.1) := by
        unfold allOf
        rw [List.filter_eq_self.2 (fun e _ => by simp)]
      rw [← e1]; exact hLp
    obtain ⟨hLl, hLo⟩ := all_facts hwfM hokM hLp2 hLs
    have HLo := Lib.hid hLo
    clear hLp hLs hLp2 hLo hwfM hokM hI hok hrow
    obtain ⟨pa, ca, rfl, -⟩ := RowIn.of_ow (X := fun _ => True) (S.get Has.head) (fun _ _ => trivial)
    dsimp only
    repeat' (first
      | go_big_hide
      | go_big_move
      | go_big_cond
      | go_big_open
      | (show wpList _ _ _ (⟨_, _, _, _, _, some _⟩ :: _) _ _; first | (refine wpList_g rfl ?_ ?_ <;> (intro hc; (try simp only [Bool.not_true, Bool.not_false, reduceCtorEq] at hc); (try (change True at hc; clear hc)); (try simp only [hc, Bool.not_true, Bool.not_false]); (try simp only [Act.put, List.setIfInBounds_toArray, List.set_cons_zero, List.set_cons_succ, List.drop_zero, List.drop_succ_cons, List.take_succ_cons, List.take_zero, setL]))) | (refine wpList_g0 rfl ?_; (try simp only [Act.put, List.setIfInBounds_toArray, List.set_cons_zero, List.set_cons_succ, List.drop_zero, List.drop_succ_cons, List.take_succ_cons, List.take_zero, setL])))
      | (show Oper.wp _ _ _ _ _ _; (first | (show Oper.wp _ ⟨_, .alloc _, _, _, _, _⟩ _ _ _ _; refine wp_alloc S rfl ?_; clear S; intro b w1 S; (try simp only [Value.cells, List.toList_toArray] at S)) | (show Oper.wp _ ⟨_, .load _ _, _, _, _, _⟩ _ _ _ _; refine wp_load1 S rfl (by with_reducible (repeat (first | exact Has.head | refine Has.tail ?_))) rfl ?_) | (show Oper.wp _ ⟨_, .load _ _, _, _, _, _⟩ _ _ _ _; refine wp_loadN S rfl (by with_reducible (repeat (first | exact Has.head | refine Has.tail ?_))) rfl rfl ?_) | (show Oper.wp _ ⟨_, .store _ _ _, _, _, _, _⟩ _ _ _ _; refine wp_store S rfl rfl rfl (by with_reducible (repeat (first | exact Upd.head | apply Upd.tail))) (by first | exact .inl (Nat.le_refl _) | exact .inr (Nat.le_refl _)) rfl rfl rfl rfl ?_; clear S; intro w1 S; simp only [List.set_cons_zero, List.set_cons_succ, setL, Act.eval, Array.getD_eq_getD_getElem?, List.getElem?_toArray, List.getElem?_cons_succ, List.getElem?_cons_zero, Option.getD_some] at S) | (show Oper.wp _ ⟨_, .binOp .eql _ _ _ _, _, _, _, _⟩ _ _ _ _; refine wp_eqAgg rfl rfl rfl rfl ?_; simp only [eqCells, eqVal, Bool.and_true]) | (show Oper.wp _ ⟨_, .binOp .neq _ _ _ _, _, _, _, _⟩ _ _ _ _; refine wp_neAgg rfl rfl rfl rfl ?_; simp only [eqCells, eqVal, Bool.and_true])) <;> simp only [Act.put, List.setIfInBounds_toArray, List.set_cons_zero, List.set_cons_succ, List.drop_zero, List.drop_succ_cons, List.take_succ_cons, List.take_zero, setL])
      | go_step)
    refine allLoop (by omega) HLo S ?_
    clear S
    intro wx S
    intros
    repeat' (first
      | go_big_hide
      | go_big_move
      | go_big_cond
      | go_big_open
      | (show wpList _ _ _ (⟨_, _, _, _, _, some _⟩ :: _) _ _; first | (refine wpList_g rfl ?_ ?_ <;> (intro hc; (try simp only [Bool.not_true, Bool.not_false, reduceCtorEq] at hc); (try (change True at hc; clear hc)); (try simp only [hc, Bool.not_true, Bool.not_false]); (try simp only [Act.put, List.setIfInBounds_toArray, List.set_cons_zero, List.set_cons_succ, List.drop_zero, List.drop_succ_cons, List.take_succ_cons, List.take_zero, setL]))) | (refine wpList_g0 rfl ?_; (try simp only [Act.put, List.setIfInBounds_toArray, List.set_cons_zero, List.set_cons_succ, List.drop_zero, List.drop_succ_cons, List.take_succ_cons, List.take_zero, setL])))
      | (show Oper.wp _ _ _ _ _ _; (first | (show Oper.wp _ ⟨_, .alloc _, _, _, _, _⟩ _ _ _ _; refine wp_alloc S rfl ?_; clear S; intro b w1 S; (try simp only [Value.cells, List.toList_toArray] at S)) | (show Oper.wp _ ⟨_, .load _ _, _, _, _, _⟩ _ _ _ _; refine wp_load1 S rfl (by with_reducible (repeat (first | exact Has.head | refine Has.tail ?_))) rfl ?_) | (show Oper.wp _ ⟨_, .load _ _, _, _, _, _⟩ _ _ _ _; refine wp_loadN S rfl (by with_reducible (repeat (first | exact Has.head | refine Has.tail ?_))) rfl rfl ?_) | (show Oper.wp _ ⟨_, .store _ _ _, _, _, _, _⟩ _ _ _ _; refine wp_store S rfl rfl rfl (by with_reducible (repeat (first | exact Upd.head | apply Upd.tail))) (by first | exact .inl (Nat.le_refl _) | exact .inr (Nat.le_refl _)) rfl rfl rfl rfl ?_; clear S; intro w1 S; simp only [List.set_cons_zero, List.set_cons_succ, setL, Act.eval, Array.getD_eq_getD_getElem?, List.getElem?_toArray, List.getElem?_cons_succ, List.getElem?_cons_zero, Option.getD_some] at S) | (show Oper.wp _ ⟨_, .binOp .eql _ _ _ _, _, _, _, _⟩ _ _ _ _; refine wp_eqAgg rfl rfl rfl rfl ?_; simp only [eqCells, eqVal, Bool.and_true]) | (show Oper.wp _ ⟨_, .binOp .neq _ _ _ _, _, _, _, _⟩ _ _ _ _; refine wp_neAgg rfl rfl rfl rfl ?_; simp only [eqCells, eqVal, Bool.and_true])) <;> simp only [Act.put, List.setIfInBounds_toArray, List.set_cons_zero, List.set_cons_succ, List.drop_zero, List.drop_succ_cons, List.take_succ_cons, List.take_zero, setL])
      | (go_at_call 40; refine (Len_good S (by with_reducible (repeat (first | exact Out.head | apply Out.tail))) (by with_reducible (repeat (first | exact Has.head | refine Has.tail ?_)))).mono ?_; rintro e w1 ⟨rfl, hm⟩; replace S := S.step hm; (try dsimp only))
      | (go_at_call 41; refine (works41_any m _ (S.cell_old HG.out (fun h => h))).mono ?_; rintro e w1 ⟨rfl, hm⟩; replace S := S.step hm; (try dsimp only))
      | go_step)
    go_ret
    exact ⟨rfl, S.mod⟩
end Go.Proofs.T
