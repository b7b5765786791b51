/-
  Walks: what functions of the program return and which memory they touch.
-/
import Derived.Test.YtdhopcnapgmhdaaGreatDoorZP20l
import Derived.Deep.Cut
import Derived.Deep.CutRange
import Derived.Test.YtdhopcnapgmhdaaGreatDoorZDz
set_option linter.unusedSimpArgs false
set_option linter.unusedVariables false
set_option linter.unusedSectionVars false
open Go Go.RowKit Go.Proofs Go.Sx Go.Hd
namespace Go.Proofs.T
set_option maxRecDepth 100000
attribute [local irreducible] Oper.wp Calls Code.wp wpList HD HX

set_option maxHeartbeats 4000000 in
theorem allLoop {w w1 : World} {o r bt bm bl ca c : Nat} {last : List Int} {th : List Bool} {md : List Int} {M : Tolds} {L : List Ch} {pa : Option Addr} {c0 c1 c2 c3 c4 c5 c6 c7 c8 c9 c10 c11 c12 c13 c14 c15 c16 c17 c18 c19 c22 c23 c24 c25 c26 c27 c28 c29 c30 c31 c32 c33 c34 c35 c36 c37 c38 c39 c40 c41 c42 c43 c44 c45 c46 c47 c48 c49 c50 c51 c52 c53 c54 c55 c56 c57 c58 c59 c60 c61 c62 c63 c64 c65 c66 c67 c68 c69 c70 c71 c72 c73 c74 c75 c76 c77 c78 c79 c80 c81 c82 c83 c84 c85 c86 c87 c88 c89 c90 c91 c92 c93 c94 c95 c96 c97 c98 c99 c100 c101 c102 c103 c104 c105 c106 c107 c108 c109 c110 c111 c112 c113 c114 c115 c116 c117 c118 c119 c120 c121 c122 c123 c124 c125 c126 c127 c128 c129 c130 c131 c132 c133 c134 c135 c136 c137 c138 c139 c140 c141 c142 c143 c144 c145 c146 c147 c148 c149 c150 c151 c152 c153 c154 c155 c156 c157 c158 c159 c160 c161 c162 c163 c164 c165 c166 c167 c168 c169 c170 c171 c172 c173 c174 c175 c176 c177 c178 c179 c180 c181 c182 c183 c184 c185 c186 c187 c188 c189 c190 c191 c192 c193 c194 c195 c196 c197 c198 c199 c200 c201 c202 c203 c204 c205 c206 c207 c208 c209 c210 c211 c212 c213 c214 c215 c216 c217 c218 c219 c220 c221 c222 c223 c224 c225 c226 c227 c228 c229 c230 c231 c232 c233 c234 c235 c236 c237 c238 c239 c240 c241 c242 c243 c244 c245 c246 c247 c248 c249 c250 c251 c252 c253 c254 c255 c256 c257 c258 c259 c260 c261 c262 c263 c264 c265 c266 c267 c268 c269 c270 c271 c272 c273 c274 c275 c276 c277 c278 c279 c280 c281 c282 c283 c284 c285 c286 c287 c288 c289 c290 c291 c292 : Value} {Q0 : Exit → Act → World → Prop} (hLm : L.length ≤ 24) (HLo : Hid (L.Pairwise fun x y => cmpP x.n.p y.n.p ≤ 0 ∧ (cmpP x.n.p y.n.p = 0 → x.n.id < y.n.id)))
    (S : St Nil w w1 [ow (.slice pa L.length ca) 84 23 L.length (L.map Ch.cells).flatten, cb bl (last.map (Value.int .i64)) 3, cb bm (md.map (Value.int .u32)) 29, cb bt (th.map Value.bool) 4, cb o [.map (some r)] 98, mp keyE Ch.val r M c])
    (hexit : ∀ wx, St Nil w wx [ow (.slice pa L.length ca) 84 23 L.length (L.map Ch.cells).flatten, cb bl (last.map (Value.int .i64)) 3, cb bm (md.map (Value.int .u32)) 29, cb bt (th.map Value.bool) 4, cb o [.map (some r)] 98, mp keyE Ch.val r M c] → ∀ (u2 u21 u22 u238 u239 u240 u241 u242 u243 u244 u245 u246 u247 u248 u249 u250 u251 u252 u253 u254 u255 u256 u257 u258 u259 u260 u261 u262 u263 u264 u265 u266 u267 u268 u269 u270 u271 u272 u273 u274 u275 u276 u277 u278 u279 : Value), Q0 (.exit 10) ⟨List.toArray (c0 :: c1 :: u2 :: c3 :: c4 :: c5 :: c6 :: c7 :: c8 :: c9 :: c10 :: c11 :: c12 :: c13 :: c14 :: c15 :: c16 :: c17 :: c18 :: c19 :: .slice pa L.length ca :: u21 :: u22 :: c23 :: c24 :: c25 :: c26 :: c27 :: c28 :: c29 :: c30 :: c31 :: c32 :: c33 :: c34 :: c35 :: c36 :: c37 :: c38 :: c39 :: c40 :: c41 :: c42 :: c43 :: c44 :: c45 :: c46 :: c47 :: c48 :: c49 :: c50 :: c51 :: c52 :: c53 :: c54 :: c55 :: c56 :: c57 :: c58 :: c59 :: c60 :: c61 :: c62 :: c63 :: c64 :: c65 :: c66 :: c67 :: c68 :: c69 :: c70 :: c71 :: c72 :: c73 :: c74 :: c75 :: c76 :: c77 :: c78 :: c79 :: c80 :: c81 :: c82 :: c83 :: c84 :: c85 :: c86 :: c87 :: c88 :: c89 :: c90 :: c91 :: c92 :: c93 :: c94 :: c95 :: c96 :: c97 :: c98 :: c99 :: c100 :: c101 :: c102 :: c103 :: c104 :: c105 :: c106 :: c107 :: c108 :: c109 :: c110 :: c111 :: c112 :: c113 :: c114 :: c115 :: c116 :: c117 :: c118 :: c119 :: c120 :: c121 :: c122 :: c123 :: c124 :: c125 :: c126 :: c127 :: c128 :: c129 :: c130 :: c131 :: c132 :: c133 :: c134 :: c135 :: c136 :: c137 :: c138 :: c139 :: c140 :: c141 :: c142 :: c143 :: c144 :: c145 :: c146 :: c147 :: c148 :: c149 :: c150 :: c151 :: c152 :: c153 :: c154 :: c155 :: c156 :: c157 :: c158 :: c159 :: c160 :: c161 :: c162 :: c163 :: c164 :: c165 :: c166 :: c167 :: c168 :: c169 :: c170 :: c171 :: c172 :: c173 :: c174 :: c175 :: c176 :: c177 :: c178 :: c179 :: c180 :: c181 :: c182 :: c183 :: c184 :: c185 :: c186 :: c187 :: c188 :: c189 :: c190 :: c191 :: c192 :: c193 :: c194 :: c195 :: c196 :: c197 :: c198 :: c199 :: c200 :: c201 :: c202 :: c203 :: c204 :: c205 :: c206 :: c207 :: c208 :: c209 :: c210 :: c211 :: c212 :: c213 :: c214 :: c215 :: c216 :: c217 :: c218 :: c219 :: c220 :: c221 :: c222 :: c223 :: c224 :: c225 :: c226 :: c227 :: c228 :: c229 :: c230 :: c231 :: c232 :: c233 :: c234 :: c235 :: c236 :: c237 :: u238 :: u239 :: u240 :: u241 :: u242 :: u243 :: u244 :: u245 :: u246 :: u247 :: u248 :: u249 :: u250 :: u251 :: u252 :: u253 :: u254 :: u255 :: u256 :: u257 :: u258 :: u259 :: u260 :: u261 :: u262 :: u263 :: u264 :: u265 :: u266 :: u267 :: u268 :: u269 :: u270 :: u271 :: u272 :: u273 :: u274 :: u275 :: u276 :: u277 :: u278 :: u279 :: c280 :: c281 :: c282 :: c283 :: c284 :: c285 :: c286 :: c287 :: c288 :: c289 :: c290 :: c291 :: c292 :: []), []⟩ wx) :
    Code.wp Tryz.prog (loop5 5) Q0 ⟨List.toArray (c0 :: c1 :: c2 :: c3 :: c4 :: c5 :: c6 :: c7 :: c8 :: c9 :: c10 :: c11 :: c12 :: c13 :: c14 :: c15 :: c16 :: c17 :: c18 :: c19 :: .slice pa L.length ca :: .int .i64 1 :: c22 :: c23 :: c24 :: c25 :: c26 :: c27 :: c28 :: c29 :: c30 :: c31 :: c32 :: c33 :: c34 :: c35 :: c36 :: c37 :: c38 :: c39 :: c40 :: c41 :: c42 :: c43 :: c44 :: c45 :: c46 :: c47 :: c48 :: c49 :: c50 :: c51 :: c52 :: c53 :: c54 :: c55 :: c56 :: c57 :: c58 :: c59 :: c60 :: c61 :: c62 :: c63 :: c64 :: c65 :: c66 :: c67 :: c68 :: c69 :: c70 :: c71 :: c72 :: c73 :: c74 :: c75 :: c76 :: c77 :: c78 :: c79 :: c80 :: c81 :: c82 :: c83 :: c84 :: c85 :: c86 :: c87 :: c88 :: c89 :: c90 :: c91 :: c92 :: c93 :: c94 :: c95 :: c96 :: c97 :: c98 :: c99 :: c100 :: c101 :: c102 :: c103 :: c104 :: c105 :: c106 :: c107 :: c108 :: c109 :: c110 :: c111 :: c112 :: c113 :: c114 :: c115 :: c116 :: c117 :: c118 :: c119 :: c120 :: c121 :: c122 :: c123 :: c124 :: c125 :: c126 :: c127 :: c128 :: c129 :: c130 :: c131 :: c132 :: c133 :: c134 :: c135 :: c136 :: c137 :: c138 :: c139 :: c140 :: c141 :: c142 :: c143 :: c144 :: c145 :: c146 :: c147 :: c148 :: c149 :: c150 :: c151 :: c152 :: c153 :: c154 :: c155 :: c156 :: c157 :: c158 :: c159 :: c160 :: c161 :: c162 :: c163 :: c164 :: c165 :: c166 :: c167 :: c168 :: c169 :: c170 :: c171 :: c172 :: c173 :: c174 :: c175 :: c176 :: c177 :: c178 :: c179 :: c180 :: c181 :: c182 :: c183 :: c184 :: c185 :: c186 :: c187 :: c188 :: c189 :: c190 :: c191 :: c192 :: c193 :: c194 :: c195 :: c196 :: c197 :: c198 :: c199 :: c200 :: c201 :: c202 :: c203 :: c204 :: c205 :: c206 :: c207 :: c208 :: c209 :: c210 :: c211 :: c212 :: c213 :: c214 :: c215 :: c216 :: c217 :: c218 :: c219 :: c220 :: c221 :: c222 :: c223 :: c224 :: c225 :: c226 :: c227 :: c228 :: c229 :: c230 :: c231 :: c232 :: c233 :: c234 :: c235 :: c236 :: c237 :: c238 :: c239 :: c240 :: c241 :: c242 :: c243 :: c244 :: c245 :: c246 :: c247 :: c248 :: c249 :: c250 :: c251 :: c252 :: c253 :: c254 :: c255 :: c256 :: c257 :: c258 :: c259 :: c260 :: c261 :: c262 :: c263 :: c264 :: c265 :: c266 :: c267 :: c268 :: c269 :: c270 :: c271 :: c272 :: c273 :: c274 :: c275 :: c276 :: c277 :: c278 :: c279 :: c280 :: c281 :: c282 :: c283 :: c284 :: c285 :: c286 :: c287 :: c288 :: c289 :: c290 :: c291 :: c292 :: []), []⟩ w1 := by
  conv => arg 2; whnf
  go_loopw [21] (fun iv wr => ∃ q : Nat, 1 ≤ q ∧ (q ≤ L.length ∨ q = 1) ∧ iv = .int .i64 q ∧ St Nil w wr [ow (.slice pa L.length ca) 84 23 L.length (L.map Ch.cells).flatten, cb bl (last.map (Value.int .i64)) 3, cb bm (md.map (Value.int .u32)) 29, cb bt (th.map Value.bool) 4, cb o [.map (some r)] 98, mp keyE Ch.val r M c]) (fun iv _ => L.length + 1 - (intOf iv).toNat)
  case atStart => exact ⟨1, by omega, .inr rfl, rfl, S⟩
  case round =>
    clear S
    obtain ⟨q, hq1, hqo, rfl, S⟩ := hrel
    by_cases hqlt : q < L.length
    · obtain ⟨p', cap', he, hrow'⟩ := RowIn.of_ow (X := fun _ => True) (S.get Has.head) (fun _ _ => trivial)
      cases he
      obtain ⟨bo, _, _, _, rfl, -⟩ := hrow' (by omega)
      clear hrow'
      obtain ⟨hxy1, hxy2⟩ := List.pairwise_iff_getElem.1 HLo.out (q - 1) q (by omega) hqlt (by omega)
      have hcx := flat_cut cells23 L (q - 1) (L[q - 1]'(by omega)) (by simp [show q - 1 < L.length by omega])
      have hcy := flat_cut cells23 L q L[q] (by simp [hqlt])
      have hix := flat_part cells23 L (q - 1) 5 (L[q - 1]'(by omega)) (.int .u32 (L[q - 1]'(by omega)).n.id) (by simp [show q - 1 < L.length by omega]) rfl
      have hiy := flat_part cells23 L q 5 L[q] (.int .u32 L[q].n.id) (by simp [hqlt]) rfl
      generalize L[q - 1]'(by omega) = x at *
      generalize L[q] = y at *
      have hcx2 : (((L.map Ch.cells).flatten).drop ((q - 1) * 23 + 1)).take 4 = x.n.p.cells := by
        have := congrArg (fun l => (l.drop 1).take 4) hcx
        simp only [List.drop_take, List.drop_drop, List.take_take] at this
        exact this
      have hcy2 : (((L.map Ch.cells).flatten).drop (q * 23 + 1)).take 4 = y.n.p.cells := by
        have := congrArg (fun l => (l.drop 1).take 4) hcy
        simp only [List.drop_take, List.drop_drop, List.take_take] at this
        exact this
      obtain ⟨xg, ⟨⟨xf, xr, xa, xn⟩, xi, xl⟩, xat⟩ := x
      obtain ⟨yg, ⟨⟨yf, yr, ya, yn⟩, yi, yl⟩, yat⟩ := y
      simp only at hxy1 hxy2 hix hiy
      simp only [Pfx.cells] at hcx2 hcy2
      have Hcx := Lib.hid hcx2; have Hcy := Lib.hid hcy2; have Hix := Lib.hid hix; have Hiy := Lib.hid hiy
      clear hcx hcy hcx2 hcy2 hix hiy
      have hCmp := Cmp_any ⟨xf, xr, xa, xn⟩ ⟨yf, yr, ya, yn⟩
      generalize cmpP ⟨xf, xr, xa, xn⟩ ⟨yf, yr, ya, yn⟩ = cc at *
      have hcc : decide ((0 : Int) < cc) = false := decide_eq_false (by omega)
      repeat' (first
        | go_big_hide
        | go_big_move
        | go_big_cond
        | go_big_open
        | (show wpList _ _ _ (⟨_, _, _, _, _, some _⟩ :: _) _ _; first | (refine wpList_g rfl ?_ ?_ <;> (intro hc; (try simp only [Bool.not_true, Bool.not_false, reduceCtorEq] at hc); (try (change True at hc; clear hc)); (try simp only [hc, Bool.not_true, Bool.not_false]); (try simp only [Act.put, List.setIfInBounds_toArray, List.set_cons_zero, List.set_cons_succ, List.drop_zero, List.drop_succ_cons, List.take_succ_cons, List.take_zero, setL]))) | (refine wpList_g0 rfl ?_; (try simp only [Act.put, List.setIfInBounds_toArray, List.set_cons_zero, List.set_cons_succ, List.drop_zero, List.drop_succ_cons, List.take_succ_cons, List.take_zero, setL])))
        | (show Oper.wp _ _ _ _ _ _; (first | (show Oper.wp _ ⟨_, .alloc _, _, _, _, _⟩ _ _ _ _; refine wp_alloc S rfl ?_; clear S; intro b w1 S; (try simp only [Value.cells, List.toList_toArray] at S)) | (show Oper.wp _ ⟨_, .load _ _, _, _, _, _⟩ _ _ _ _; refine wp_load1 S rfl (by with_reducible (repeat (first | exact Has.head | refine Has.tail ?_))) rfl ?_) | (show Oper.wp _ ⟨_, .load _ _, _, _, _, _⟩ _ _ _ _; refine wp_loadN S rfl (by with_reducible (repeat (first | exact Has.head | refine Has.tail ?_))) rfl rfl ?_) | (show Oper.wp _ ⟨_, .store _ _ _, _, _, _, _⟩ _ _ _ _; refine wp_store S rfl rfl rfl (by with_reducible (repeat (first | exact Upd.head | apply Upd.tail))) (by first | exact .inl (Nat.le_refl _) | exact .inr (Nat.le_refl _)) rfl rfl rfl rfl ?_; clear S; intro w1 S; simp only [List.set_cons_zero, List.set_cons_succ, setL, Act.eval, Array.getD_eq_getD_getElem?, List.getElem?_toArray, List.getElem?_cons_succ, List.getElem?_cons_zero, Option.getD_some] at S) | (show Oper.wp _ ⟨_, .binOp .eql _ _ _ _, _, _, _, _⟩ _ _ _ _; refine wp_eqAgg rfl rfl rfl rfl ?_; simp only [eqCells, eqVal, Bool.and_true]) | (show Oper.wp _ ⟨_, .binOp .neq _ _ _ _, _, _, _, _⟩ _ _ _ _; refine wp_neAgg rfl rfl rfl rfl ?_; simp only [eqCells, eqVal, Bool.and_true])) <;> simp only [Act.put, List.setIfInBounds_toArray, List.set_cons_zero, List.set_cons_succ, List.drop_zero, List.drop_succ_cons, List.take_succ_cons, List.take_zero, setL])
        | go_step)
      refine wp_region_D (fun w' => St Nil w w' _) mixed (by kernel_rfl) S.drew ?_
      clear S
      repeat' (first
        | (apply HD_op rfl rfl
           case' h =>
             intro wz S K hK
             repeat' (first
               | (go_at_K; exact hK _ S)
               | go_big_hide
               | go_big_move
               | go_big_cond
               | go_big_open
               | (show Oper.wp _ ⟨_, .indexAddr 76 _ _, _, _, _, _⟩ _ _ _ _; refine wp_indexAddr (i := (q : Int)) (q := q * 23) rfl rfl (by omega) (by omega) (by simp) ?_; simp only [Act.put, List.setIfInBounds_toArray, List.set_cons_zero, List.set_cons_succ])
               | (show Oper.wp _ ⟨_, .indexAddr 76 _ _, _, _, _, _⟩ _ _ _ _; refine wp_indexAddr (i := (q : Int) - 1) (q := (q - 1) * 23) rfl rfl (by omega) (by omega) (by rw [show ((q : Int) - 1).toNat = q - 1 by omega]; simp) ?_; simp only [Act.put, List.setIfInBounds_toArray, List.set_cons_zero, List.set_cons_succ])
               | (show Oper.wp _ ⟨_, .load _ _, _, _, _, _⟩ _ _ _ _; refine wp_loadNO S rfl (by with_reducible (repeat (first | exact Has.head | refine Has.tail ?_))) Hcx.out rfl ?_; simp only [Act.put, List.setIfInBounds_toArray, List.set_cons_zero, List.set_cons_succ])
               | (show Oper.wp _ ⟨_, .load _ _, _, _, _, _⟩ _ _ _ _; refine wp_loadNO S rfl (by with_reducible (repeat (first | exact Has.head | refine Has.tail ?_))) Hcy.out rfl ?_; simp only [Act.put, List.setIfInBounds_toArray, List.set_cons_zero, List.set_cons_succ])
               | (show Oper.wp _ _ _ _ _ _; (first | (show Oper.wp _ ⟨_, .alloc _, _, _, _, _⟩ _ _ _ _; refine wp_alloc S rfl ?_; clear S; intro b w1 S; (try simp only [Value.cells, List.toList_toArray] at S)) | (show Oper.wp _ ⟨_, .load _ _, _, _, _, _⟩ _ _ _ _; refine wp_load1 S rfl (by with_reducible (repeat (first | exact Has.head | refine Has.tail ?_))) rfl ?_) | (show Oper.wp _ ⟨_, .load _ _, _, _, _, _⟩ _ _ _ _; refine wp_loadN S rfl (by with_reducible (repeat (first | exact Has.head | refine Has.tail ?_))) rfl rfl ?_) | (show Oper.wp _ ⟨_, .store _ _ _, _, _, _, _⟩ _ _ _ _; refine wp_store S rfl rfl rfl (by with_reducible (repeat (first | exact Upd.head | apply Upd.tail))) (by first | exact .inl (Nat.le_refl _) | exact .inr (Nat.le_refl _)) rfl rfl rfl rfl ?_; clear S; intro w1 S; simp only [List.set_cons_zero, List.set_cons_succ, setL, Act.eval, Array.getD_eq_getD_getElem?, List.getElem?_toArray, List.getElem?_cons_succ, List.getElem?_cons_zero, Option.getD_some] at S) | (show Oper.wp _ ⟨_, .binOp .eql _ _ _ _, _, _, _, _⟩ _ _ _ _; refine wp_eqAgg rfl rfl rfl rfl ?_; simp only [eqCells, eqVal, Bool.and_true]) | (show Oper.wp _ ⟨_, .binOp .neq _ _ _ _, _, _, _, _⟩ _ _ _ _; refine wp_neAgg rfl rfl rfl rfl ?_; simp only [eqCells, eqVal, Bool.and_true])))
               | (go_at_call 39; refine (hCmp _).mono ?_; rintro e w1 ⟨rfl, hm⟩; replace S := S.step hm; (try dsimp only))
               | go_step)
           simp only [Act.put, List.setIfInBounds_toArray, List.set_cons_zero, List.set_cons_succ, List.drop_zero, List.drop_succ_cons, List.take_succ_cons, List.take_zero, setL])
        | (refine HD_skip rfl ?_; simp only [Act.put, List.setIfInBounds_toArray, List.set_cons_zero, List.set_cons_succ, List.drop_zero, List.drop_succ_cons, List.take_succ_cons, List.take_zero, setL])
        | (refine HD_by rfl rfl ?_ ?_ <;> (intro hc; simp only [hc, Bool.not_true, Bool.not_false]))
        | (refine HD_nil ?_; intro w1 S))
      by_cases hz : cc = 0
      · have hlt := hxy2 hz
        have hz2 : (cc == 0) = true := by rw [hz]; rfl
        have hyx : decide (yi ≤ xi) = false := decide_eq_false (by omega)
        clear hxy1 hxy2 hlt hz
        repeat' (first
          | go_big_hide
          | go_big_move
          | go_big_cond
          | go_big_open
          | (show wpList _ _ _ (⟨_, _, _, _, _, some _⟩ :: _) _ _; first | (refine wpList_g rfl ?_ ?_ <;> (intro hc; (try simp only [Bool.not_true, Bool.not_false, reduceCtorEq] at hc); (try (change True at hc; clear hc)); (try simp only [hc, Bool.not_true, Bool.not_false]); (try simp only [Act.put, List.setIfInBounds_toArray, List.set_cons_zero, List.set_cons_succ, List.drop_zero, List.drop_succ_cons, List.take_succ_cons, List.take_zero, setL]))) | (refine wpList_g0 rfl ?_; (try simp only [Act.put, List.setIfInBounds_toArray, List.set_cons_zero, List.set_cons_succ, List.drop_zero, List.drop_succ_cons, List.take_succ_cons, List.take_zero, setL])))
          | (show Oper.wp _ _ _ _ _ _; (first | (show Oper.wp _ ⟨_, .alloc _, _, _, _, _⟩ _ _ _ _; refine wp_alloc S rfl ?_; clear S; intro b w1 S; (try simp only [Value.cells, List.toList_toArray] at S)) | (show Oper.wp _ ⟨_, .load _ _, _, _, _, _⟩ _ _ _ _; refine wp_load1 S rfl (by with_reducible (repeat (first | exact Has.head | refine Has.tail ?_))) rfl ?_) | (show Oper.wp _ ⟨_, .load _ _, _, _, _, _⟩ _ _ _ _; refine wp_loadN S rfl (by with_reducible (repeat (first | exact Has.head | refine Has.tail ?_))) rfl rfl ?_) | (show Oper.wp _ ⟨_, .store _ _ _, _, _, _, _⟩ _ _ _ _; refine wp_store S rfl rfl rfl (by with_reducible (repeat (first | exact Upd.head | apply Upd.tail))) (by first | exact .inl (Nat.le_refl _) | exact .inr (Nat.le_refl _)) rfl rfl rfl rfl ?_; clear S; intro w1 S; simp only [List.set_cons_zero, List.set_cons_succ, setL, Act.eval, Array.getD_eq_getD_getElem?, List.getElem?_toArray, List.getElem?_cons_succ, List.getElem?_cons_zero, Option.getD_some] at S) | (show Oper.wp _ ⟨_, .binOp .eql _ _ _ _, _, _, _, _⟩ _ _ _ _; refine wp_eqAgg rfl rfl rfl rfl ?_; simp only [eqCells, eqVal, Bool.and_true]) | (show Oper.wp _ ⟨_, .binOp .neq _ _ _ _, _, _, _, _⟩ _ _ _ _; refine wp_neAgg rfl rfl rfl rfl ?_; simp only [eqCells, eqVal, Bool.and_true])) <;> simp only [Act.put, List.setIfInBounds_toArray, List.set_cons_zero, List.set_cons_succ, List.drop_zero, List.drop_succ_cons, List.take_succ_cons, List.take_zero, setL])
          | go_step)
        refine wp_region_D (fun w' => St Nil w w' _) mixed (by kernel_rfl) S.drew ?_
        clear S
        repeat' (first
          | (apply HD_op rfl rfl
             case' h =>
               intro wz S K hK
               repeat' (first
                 | (go_at_K; exact hK _ S)
                 | go_big_hide
                 | go_big_move
                 | go_big_cond
                 | go_big_open
                 | (show Oper.wp _ ⟨_, .indexAddr 76 _ _, _, _, _, _⟩ _ _ _ _; refine wp_indexAddr (i := (q : Int)) (q := q * 23) rfl rfl (by omega) (by omega) (by simp) ?_; simp only [Act.put, List.setIfInBounds_toArray, List.set_cons_zero, List.set_cons_succ])
                 | (show Oper.wp _ ⟨_, .indexAddr 76 _ _, _, _, _, _⟩ _ _ _ _; refine wp_indexAddr (i := (q : Int) - 1) (q := (q - 1) * 23) rfl rfl (by omega) (by omega) (by rw [show ((q : Int) - 1).toNat = q - 1 by omega]; simp) ?_; simp only [Act.put, List.setIfInBounds_toArray, List.set_cons_zero, List.set_cons_succ])
                 | (show Oper.wp _ ⟨_, .load _ _, _, _, _, _⟩ _ _ _ _; refine wp_load1O S rfl (by with_reducible (repeat (first | exact Has.head | refine Has.tail ?_))) Hix.out ?_; simp only [Act.put, List.setIfInBounds_toArray, List.set_cons_zero, List.set_cons_succ])
                 | (show Oper.wp _ ⟨_, .load _ _, _, _, _, _⟩ _ _ _ _; refine wp_load1O S rfl (by with_reducible (repeat (first | exact Has.head | refine Has.tail ?_))) Hiy.out ?_; simp only [Act.put, List.setIfInBounds_toArray, List.set_cons_zero, List.set_cons_succ])
                 | (show Oper.wp _ _ _ _ _ _; (first | (show Oper.wp _ ⟨_, .alloc _, _, _, _, _⟩ _ _ _ _; refine wp_alloc S rfl ?_; clear S; intro b w1 S; (try simp only [Value.cells, List.toList_toArray] at S)) | (show Oper.wp _ ⟨_, .load _ _, _, _, _, _⟩ _ _ _ _; refine wp_load1 S rfl (by with_reducible (repeat (first | exact Has.head | refine Has.tail ?_))) rfl ?_) | (show Oper.wp _ ⟨_, .load _ _, _, _, _, _⟩ _ _ _ _; refine wp_loadN S rfl (by with_reducible (repeat (first | exact Has.head | refine Has.tail ?_))) rfl rfl ?_) | (show Oper.wp _ ⟨_, .store _ _ _, _, _, _, _⟩ _ _ _ _; refine wp_store S rfl rfl rfl (by with_reducible (repeat (first | exact Upd.head | apply Upd.tail))) (by first | exact .inl (Nat.le_refl _) | exact .inr (Nat.le_refl _)) rfl rfl rfl rfl ?_; clear S; intro w1 S; simp only [List.set_cons_zero, List.set_cons_succ, setL, Act.eval, Array.getD_eq_getD_getElem?, List.getElem?_toArray, List.getElem?_cons_succ, List.getElem?_cons_zero, Option.getD_some] at S) | (show Oper.wp _ ⟨_, .binOp .eql _ _ _ _, _, _, _, _⟩ _ _ _ _; refine wp_eqAgg rfl rfl rfl rfl ?_; simp only [eqCells, eqVal, Bool.and_true]) | (show Oper.wp _ ⟨_, .binOp .neq _ _ _ _, _, _, _, _⟩ _ _ _ _; refine wp_neAgg rfl rfl rfl rfl ?_; simp only [eqCells, eqVal, Bool.and_true])))
                 | go_step)
             simp only [Act.put, List.setIfInBounds_toArray, List.set_cons_zero, List.set_cons_succ, List.drop_zero, List.drop_succ_cons, List.take_succ_cons, List.take_zero, setL])
          | (refine HD_skip rfl ?_; simp only [Act.put, List.setIfInBounds_toArray, List.set_cons_zero, List.set_cons_succ, List.drop_zero, List.drop_succ_cons, List.take_succ_cons, List.take_zero, setL])
          | (refine HD_by rfl rfl ?_ ?_ <;> (intro hc; simp only [hc, Bool.not_true, Bool.not_false]))
          | (refine HD_nil ?_; intro w1 S))
        repeat' (first
          | go_big_hide
          | go_big_move
          | go_big_cond
          | go_big_open
          | (show wpList _ _ _ (⟨_, _, _, _, _, some _⟩ :: _) _ _; first | (refine wpList_g rfl ?_ ?_ <;> (intro hc; (try simp only [Bool.not_true, Bool.not_false, reduceCtorEq] at hc); (try (change True at hc; clear hc)); (try simp only [hc, Bool.not_true, Bool.not_false]); (try simp only [Act.put, List.setIfInBounds_toArray, List.set_cons_zero, List.set_cons_succ, List.drop_zero, List.drop_succ_cons, List.take_succ_cons, List.take_zero, setL]))) | (refine wpList_g0 rfl ?_; (try simp only [Act.put, List.setIfInBounds_toArray, List.set_cons_zero, List.set_cons_succ, List.drop_zero, List.drop_succ_cons, List.take_succ_cons, List.take_zero, setL])))
          | (show Oper.wp _ _ _ _ _ _; (first | (show Oper.wp _ ⟨_, .alloc _, _, _, _, _⟩ _ _ _ _; refine wp_alloc S rfl ?_; clear S; intro b w1 S; (try simp only [Value.cells, List.toList_toArray] at S)) | (show Oper.wp _ ⟨_, .load _ _, _, _, _, _⟩ _ _ _ _; refine wp_load1 S rfl (by with_reducible (repeat (first | exact Has.head | refine Has.tail ?_))) rfl ?_) | (show Oper.wp _ ⟨_, .load _ _, _, _, _, _⟩ _ _ _ _; refine wp_loadN S rfl (by with_reducible (repeat (first | exact Has.head | refine Has.tail ?_))) rfl rfl ?_) | (show Oper.wp _ ⟨_, .store _ _ _, _, _, _, _⟩ _ _ _ _; refine wp_store S rfl rfl rfl (by with_reducible (repeat (first | exact Upd.head | apply Upd.tail))) (by first | exact .inl (Nat.le_refl _) | exact .inr (Nat.le_refl _)) rfl rfl rfl rfl ?_; clear S; intro w1 S; simp only [List.set_cons_zero, List.set_cons_succ, setL, Act.eval, Array.getD_eq_getD_getElem?, List.getElem?_toArray, List.getElem?_cons_succ, List.getElem?_cons_zero, Option.getD_some] at S) | (show Oper.wp _ ⟨_, .binOp .eql _ _ _ _, _, _, _, _⟩ _ _ _ _; refine wp_eqAgg rfl rfl rfl rfl ?_; simp only [eqCells, eqVal, Bool.and_true]) | (show Oper.wp _ ⟨_, .binOp .neq _ _ _ _, _, _, _, _⟩ _ _ _ _; refine wp_neAgg rfl rfl rfl rfl ?_; simp only [eqCells, eqVal, Bool.and_true])) <;> simp only [Act.put, List.setIfInBounds_toArray, List.set_cons_zero, List.set_cons_succ, List.drop_zero, List.drop_succ_cons, List.take_succ_cons, List.take_zero, setL])
          | go_step)
        go_roundw
        case rel => exact ⟨q + 1, by omega, .inl (by omega), by go_num, S⟩
        case measure => simp [intOf]; omega
      · have hz2 : (cc == 0) = false := by rw [beq_eq_false_iff_ne]; exact hz
        clear hxy1 hxy2 hz
        repeat' (first
          | go_big_hide
          | go_big_move
          | go_big_cond
          | go_big_open
          | (show wpList _ _ _ (⟨_, _, _, _, _, some _⟩ :: _) _ _; first | (refine wpList_g rfl ?_ ?_ <;> (intro hc; (try simp only [Bool.not_true, Bool.not_false, reduceCtorEq] at hc); (try (change True at hc; clear hc)); (try simp only [hc, Bool.not_true, Bool.not_false]); (try simp only [Act.put, List.setIfInBounds_toArray, List.set_cons_zero, List.set_cons_succ, List.drop_zero, List.drop_succ_cons, List.take_succ_cons, List.take_zero, setL]))) | (refine wpList_g0 rfl ?_; (try simp only [Act.put, List.setIfInBounds_toArray, List.set_cons_zero, List.set_cons_succ, List.drop_zero, List.drop_succ_cons, List.take_succ_cons, List.take_zero, setL])))
          | (show Oper.wp _ _ _ _ _ _; (first | (show Oper.wp _ ⟨_, .alloc _, _, _, _, _⟩ _ _ _ _; refine wp_alloc S rfl ?_; clear S; intro b w1 S; (try simp only [Value.cells, List.toList_toArray] at S)) | (show Oper.wp _ ⟨_, .load _ _, _, _, _, _⟩ _ _ _ _; refine wp_load1 S rfl (by with_reducible (repeat (first | exact Has.head | refine Has.tail ?_))) rfl ?_) | (show Oper.wp _ ⟨_, .load _ _, _, _, _, _⟩ _ _ _ _; refine wp_loadN S rfl (by with_reducible (repeat (first | exact Has.head | refine Has.tail ?_))) rfl rfl ?_) | (show Oper.wp _ ⟨_, .store _ _ _, _, _, _, _⟩ _ _ _ _; refine wp_store S rfl rfl rfl (by with_reducible (repeat (first | exact Upd.head | apply Upd.tail))) (by first | exact .inl (Nat.le_refl _) | exact .inr (Nat.le_refl _)) rfl rfl rfl rfl ?_; clear S; intro w1 S; simp only [List.set_cons_zero, List.set_cons_succ, setL, Act.eval, Array.getD_eq_getD_getElem?, List.getElem?_toArray, List.getElem?_cons_succ, List.getElem?_cons_zero, Option.getD_some] at S) | (show Oper.wp _ ⟨_, .binOp .eql _ _ _ _, _, _, _, _⟩ _ _ _ _; refine wp_eqAgg rfl rfl rfl rfl ?_; simp only [eqCells, eqVal, Bool.and_true]) | (show Oper.wp _ ⟨_, .binOp .neq _ _ _ _, _, _, _, _⟩ _ _ _ _; refine wp_neAgg rfl rfl rfl rfl ?_; simp only [eqCells, eqVal, Bool.and_true])) <;> simp only [Act.put, List.setIfInBounds_toArray, List.set_cons_zero, List.set_cons_succ, List.drop_zero, List.drop_succ_cons, List.take_succ_cons, List.take_zero, setL])
          | go_step)
        refine wp_region_D (fun w' => St Nil w w' _) mixed (by kernel_rfl) S.drew ?_
        clear S
        repeat' (first
          | (apply HD_op rfl rfl
             case' h =>
               intro wz S K hK
               repeat' (first
                 | (go_at_K; exact hK _ S)
                 | go_big_hide
                 | go_big_move
                 | go_big_cond
                 | go_big_open
                 | (show Oper.wp _ ⟨_, .indexAddr 76 _ _, _, _, _, _⟩ _ _ _ _; refine wp_indexAddr (i := (q : Int)) (q := q * 23) rfl rfl (by omega) (by omega) (by simp) ?_; simp only [Act.put, List.setIfInBounds_toArray, List.set_cons_zero, List.set_cons_succ])
                 | (show Oper.wp _ ⟨_, .indexAddr 76 _ _, _, _, _, _⟩ _ _ _ _; refine wp_indexAddr (i := (q : Int) - 1) (q := (q - 1) * 23) rfl rfl (by omega) (by omega) (by rw [show ((q : Int) - 1).toNat = q - 1 by omega]; simp) ?_; simp only [Act.put, List.setIfInBounds_toArray, List.set_cons_zero, List.set_cons_succ])
                 | (show Oper.wp _ ⟨_, .load _ _, _, _, _, _⟩ _ _ _ _; refine wp_load1O S rfl (by with_reducible (repeat (first | exact Has.head | refine Has.tail ?_))) Hix.out ?_; simp only [Act.put, List.setIfInBounds_toArray, List.set_cons_zero, List.set_cons_succ])
                 | (show Oper.wp _ ⟨_, .load _ _, _, _, _, _⟩ _ _ _ _; refine wp_load1O S rfl (by with_reducible (repeat (first | exact Has.head | refine Has.tail ?_))) Hiy.out ?_; simp only [Act.put, List.setIfInBounds_toArray, List.set_cons_zero, List.set_cons_succ])
                 | (show Oper.wp _ _ _ _ _ _; (first | (show Oper.wp _ ⟨_, .alloc _, _, _, _, _⟩ _ _ _ _; refine wp_alloc S rfl ?_; clear S; intro b w1 S; (try simp only [Value.cells, List.toList_toArray] at S)) | (show Oper.wp _ ⟨_, .load _ _, _, _, _, _⟩ _ _ _ _; refine wp_load1 S rfl (by with_reducible (repeat (first | exact Has.head | refine Has.tail ?_))) rfl ?_) | (show Oper.wp _ ⟨_, .load _ _, _, _, _, _⟩ _ _ _ _; refine wp_loadN S rfl (by with_reducible (repeat (first | exact Has.head | refine Has.tail ?_))) rfl rfl ?_) | (show Oper.wp _ ⟨_, .store _ _ _, _, _, _, _⟩ _ _ _ _; refine wp_store S rfl rfl rfl (by with_reducible (repeat (first | exact Upd.head | apply Upd.tail))) (by first | exact .inl (Nat.le_refl _) | exact .inr (Nat.le_refl _)) rfl rfl rfl rfl ?_; clear S; intro w1 S; simp only [List.set_cons_zero, List.set_cons_succ, setL, Act.eval, Array.getD_eq_getD_getElem?, List.getElem?_toArray, List.getElem?_cons_succ, List.getElem?_cons_zero, Option.getD_some] at S) | (show Oper.wp _ ⟨_, .binOp .eql _ _ _ _, _, _, _, _⟩ _ _ _ _; refine wp_eqAgg rfl rfl rfl rfl ?_; simp only [eqCells, eqVal, Bool.and_true]) | (show Oper.wp _ ⟨_, .binOp .neq _ _ _ _, _, _, _, _⟩ _ _ _ _; refine wp_neAgg rfl rfl rfl rfl ?_; simp only [eqCells, eqVal, Bool.and_true])))
                 | go_step)
             simp only [Act.put, List.setIfInBounds_toArray, List.set_cons_zero, List.set_cons_succ, List.drop_zero, List.drop_succ_cons, List.take_succ_cons, List.take_zero, setL])
          | (refine HD_skip rfl ?_; simp only [Act.put, List.setIfInBounds_toArray, List.set_cons_zero, List.set_cons_succ, List.drop_zero, List.drop_succ_cons, List.take_succ_cons, List.take_zero, setL])
          | (refine HD_by rfl rfl ?_ ?_ <;> (intro hc; simp only [hc, Bool.not_true, Bool.not_false]))
          | (refine HD_nil ?_; intro w1 S))
        repeat' (first
          | go_big_hide
          | go_big_move
          | go_big_cond
          | go_big_open
          | (show wpList _ _ _ (⟨_, _, _, _, _, some _⟩ :: _) _ _; first | (refine wpList_g rfl ?_ ?_ <;> (intro hc; (try simp only [Bool.not_true, Bool.not_false, reduceCtorEq] at hc); (try (change True at hc; clear hc)); (try simp only [hc, Bool.not_true, Bool.not_false]); (try simp only [Act.put, List.setIfInBounds_toArray, List.set_cons_zero, List.set_cons_succ, List.drop_zero, List.drop_succ_cons, List.take_succ_cons, List.take_zero, setL]))) | (refine wpList_g0 rfl ?_; (try simp only [Act.put, List.setIfInBounds_toArray, List.set_cons_zero, List.set_cons_succ, List.drop_zero, List.drop_succ_cons, List.take_succ_cons, List.take_zero, setL])))
          | (show Oper.wp _ _ _ _ _ _; (first | (show Oper.wp _ ⟨_, .alloc _, _, _, _, _⟩ _ _ _ _; refine wp_alloc S rfl ?_; clear S; intro b w1 S; (try simp only [Value.cells, List.toList_toArray] at S)) | (show Oper.wp _ ⟨_, .load _ _, _, _, _, _⟩ _ _ _ _; refine wp_load1 S rfl (by with_reducible (repeat (first | exact Has.head | refine Has.tail ?_))) rfl ?_) | (show Oper.wp _ ⟨_, .load _ _, _, _, _, _⟩ _ _ _ _; refine wp_loadN S rfl (by with_reducible (repeat (first | exact Has.head | refine Has.tail ?_))) rfl rfl ?_) | (show Oper.wp _ ⟨_, .store _ _ _, _, _, _, _⟩ _ _ _ _; refine wp_store S rfl rfl rfl (by with_reducible (repeat (first | exact Upd.head | apply Upd.tail))) (by first | exact .inl (Nat.le_refl _) | exact .inr (Nat.le_refl _)) rfl rfl rfl rfl ?_; clear S; intro w1 S; simp only [List.set_cons_zero, List.set_cons_succ, setL, Act.eval, Array.getD_eq_getD_getElem?, List.getElem?_toArray, List.getElem?_cons_succ, List.getElem?_cons_zero, Option.getD_some] at S) | (show Oper.wp _ ⟨_, .binOp .eql _ _ _ _, _, _, _, _⟩ _ _ _ _; refine wp_eqAgg rfl rfl rfl rfl ?_; simp only [eqCells, eqVal, Bool.and_true]) | (show Oper.wp _ ⟨_, .binOp .neq _ _ _ _, _, _, _, _⟩ _ _ _ _; refine wp_neAgg rfl rfl rfl rfl ?_; simp only [eqCells, eqVal, Bool.and_true])) <;> simp only [Act.put, List.setIfInBounds_toArray, List.set_cons_zero, List.set_cons_succ, List.drop_zero, List.drop_succ_cons, List.take_succ_cons, List.take_zero, setL])
          | go_step)
        go_roundw
        case rel => exact ⟨q + 1, by omega, .inl (by omega), by go_num, S⟩
        case measure => simp [intOf]; omega
    · clear HLo
      repeat' (first
        | go_big_hide
        | go_big_move
        | go_big_cond
        | go_big_open
        | (show wpList _ _ _ (⟨_, _, _, _, _, some _⟩ :: _) _ _; first | (refine wpList_g rfl ?_ ?_ <;> (intro hc; (try simp only [Bool.not_true, Bool.not_false, reduceCtorEq] at hc); (try (change True at hc; clear hc)); (try simp only [hc, Bool.not_true, Bool.not_false]); (try simp only [Act.put, List.setIfInBounds_toArray, List.set_cons_zero, List.set_cons_succ, List.drop_zero, List.drop_succ_cons, List.take_succ_cons, List.take_zero, setL]))) | (refine wpList_g0 rfl ?_; (try simp only [Act.put, List.setIfInBounds_toArray, List.set_cons_zero, List.set_cons_succ, List.drop_zero, List.drop_succ_cons, List.take_succ_cons, List.take_zero, setL])))
        | (show Oper.wp _ _ _ _ _ _; (first | (show Oper.wp _ ⟨_, .alloc _, _, _, _, _⟩ _ _ _ _; refine wp_alloc S rfl ?_; clear S; intro b w1 S; (try simp only [Value.cells, List.toList_toArray] at S)) | (show Oper.wp _ ⟨_, .load _ _, _, _, _, _⟩ _ _ _ _; refine wp_load1 S rfl (by with_reducible (repeat (first | exact Has.head | refine Has.tail ?_))) rfl ?_) | (show Oper.wp _ ⟨_, .load _ _, _, _, _, _⟩ _ _ _ _; refine wp_loadN S rfl (by with_reducible (repeat (first | exact Has.head | refine Has.tail ?_))) rfl rfl ?_) | (show Oper.wp _ ⟨_, .store _ _ _, _, _, _, _⟩ _ _ _ _; refine wp_store S rfl rfl rfl (by with_reducible (repeat (first | exact Upd.head | apply Upd.tail))) (by first | exact .inl (Nat.le_refl _) | exact .inr (Nat.le_refl _)) rfl rfl rfl rfl ?_; clear S; intro w1 S; simp only [List.set_cons_zero, List.set_cons_succ, setL, Act.eval, Array.getD_eq_getD_getElem?, List.getElem?_toArray, List.getElem?_cons_succ, List.getElem?_cons_zero, Option.getD_some] at S) | (show Oper.wp _ ⟨_, .binOp .eql _ _ _ _, _, _, _, _⟩ _ _ _ _; refine wp_eqAgg rfl rfl rfl rfl ?_; simp only [eqCells, eqVal, Bool.and_true]) | (show Oper.wp _ ⟨_, .binOp .neq _ _ _ _, _, _, _, _⟩ _ _ _ _; refine wp_neAgg rfl rfl rfl rfl ?_; simp only [eqCells, eqVal, Bool.and_true])) <;> simp only [Act.put, List.setIfInBounds_toArray, List.set_cons_zero, List.set_cons_succ, List.drop_zero, List.drop_succ_cons, List.take_succ_cons, List.take_zero, setL])
        | go_step)
      all_goals (first | exact S | apply hexit _ S)
end Go.Proofs.T
