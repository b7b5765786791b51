/-
  Walks: what functions of the program return and which memory they touch.
-/
import Derived.Test.YtdhopcnapgmhdaaGreatDoorZP20l
import Derived.Deep.Cut
import Derived.Deep.CutRange
import Derived.Test.YtdhopcnapgmhdaaGreatDoorZDz
set_option linter.unusedSimpArgs false
set_option linter.unusedVariables false
set_option linter.unusedSectionVars false
open Go Go.RowKit Go.Proofs Go.Sx Go.Hd
namespace Go.Proofs.T
set_option maxRecDepth 100000
attribute [local irreducible] Oper.wp Calls Code.wp wpList HD HX

set_option maxHeartbeats 4000000 in
theorem outLoop {l : List Stp} {w w1 : World} {o r bt bm bl bs o3 cap k c c' co : Nat} {a ids med : Int} {cur : Nat → Option Stp} {last : List Int} {th : List Bool} {md : List Int} {M M' : Tolds} {out : List Ch} {po : Option Addr} {c1 c2 c3 c6 c10 c12 c13 c14 c15 c16 c17 c18 c19 c20 c21 c22 c23 c24 c25 c26 c27 c28 c29 c30 c31 c32 c33 c34 c35 c36 c37 c38 c39 c40 c41 c42 c43 c44 c45 c46 c47 c48 c49 c50 c51 c52 c53 c54 c55 c56 c57 c58 c59 c60 c61 c62 c63 c64 c65 c66 c67 c68 c69 c70 c71 c72 c73 c74 c75 c76 c77 c78 c79 c80 c81 c82 c83 c84 c85 c86 c87 c88 c89 c90 c91 c92 c93 c94 c95 c96 c97 c98 c99 c100 c101 c102 c103 c104 c105 c106 c107 c108 c109 c110 c111 c112 c113 c114 c115 c116 c117 c118 c119 c120 c121 c122 c123 c124 c125 c126 c127 c128 c129 c130 c131 c132 c133 c134 c135 c136 c137 c138 c139 c140 c141 c142 c143 c144 c145 c146 c147 c148 c149 c150 c151 c152 c153 c154 c155 c156 c157 c158 c159 c160 c161 c162 c163 c164 c165 c166 c167 c168 c169 c170 c171 c172 c173 c174 c175 c176 c177 c178 c179 c180 c181 c182 c183 c184 c185 c186 c187 c188 c189 c190 c191 c192 c193 c194 c195 c196 c197 c198 c199 c200 c201 c202 c203 c204 c205 c206 c207 c208 c209 c210 c211 c212 c213 c214 c215 c216 c217 c218 c219 c220 c221 c222 c223 c224 c225 c226 c227 c228 c229 c230 c231 c232 c233 c234 c235 c236 c237 c238 c239 c240 c241 c242 c243 c244 c245 c246 c247 c248 c249 c250 c251 c252 c253 c254 c255 c256 c257 c258 c259 c260 c261 c262 c263 c264 c265 c266 c267 c268 c269 c270 c271 c272 c273 c274 c275 c276 c277 c278 c279 c280 c281 c282 c283 c284 c285 c286 c287 c288 c289 c290 c291 c292 : Value} {Q0 : Exit → Act → World → Prop} (h1 : k < l.length) (hk : k ≤ 40) (hl : l.length ≤ 9223372036854775807) (hI : Inv l k cur last th md M c) (hbs0 : bs < w.heap.size) (ha0 : 0 ≤ a) (ha1 : a ≤ 255) (hi0 : 0 ≤ ids) (hi1 : ids ≤ 255) (HC : Hid (∀ W : World, W.heap[bs]? = w.heap[bs]? → ∀ j u, (Stp.cells ⟨a, ids, med⟩)[j]? = some u → W.cell? ⟨bs, o3 + k * 3 + j, none⟩ = some u)) (hout : out.Perm (outOf M (pfx a) (wantTo ⟨a, ids, med⟩ 4))) (hps : ∀ x ∈ out, x.n.p = pfx a) (hasc : List.Pairwise (fun x y => x.n.id < y.n.id) out)
    (S : St Nil w w1 [ow (.slice po out.length co) 84 23 out.length (out.map Ch.cells).flatten, mp keyE Ch.val r M' c', cb bl ((last.set (slot ⟨a, ids, med⟩) ((k : Int) + 1)).map (Value.int .i64)) 3, cb bm (md.map (Value.int .u32)) 29, cb bt (th.map Value.bool) 4, cb o [.map (some r)] 98])
    (hexit : ∀ wx, St Nil w wx [ow (.slice po out.length co) 84 23 out.length (out.map Ch.cells).flatten, mp keyE Ch.val r M' c', cb bl ((last.set (slot ⟨a, ids, med⟩) ((k : Int) + 1)).map (Value.int .i64)) 3, cb bm ((mdTo ⟨a, ids, med⟩ md out).map (Value.int .u32)) 29, cb bt ((thTo ⟨a, ids, med⟩ th out).map Value.bool) 4, cb o [.map (some r)] 98] → ∀ (u2 u11 u12 u13 u69 u70 u71 u72 u73 u74 u75 u76 u77 u78 u79 u80 u81 u82 u83 u84 u85 u86 u87 u88 u89 u90 u91 u92 u93 u94 u95 u96 u97 u98 u99 u100 u101 u102 u103 u104 u105 u106 u107 u108 u109 u110 u111 u112 u113 u114 u115 u116 u117 u118 u119 u120 u121 u122 u123 u124 u125 u126 u127 u128 u129 u130 u131 u132 u133 u134 u135 u136 u137 u138 u139 u140 u141 u142 u143 u144 u145 u146 u147 u148 u149 u150 u151 u152 u153 u154 u155 u156 u157 u158 u159 u160 : Value), Q0 (.exit 2) ⟨List.toArray (.slice (some ⟨bs, o3, none⟩) l.length cap :: c1 :: u2 :: c3 :: .slice (some ⟨bt, 0, none⟩) 24 24 :: .slice (some ⟨bm, 0, none⟩) 24 24 :: c6 :: .int .i64 k :: .int .i64 (a % 6) :: .slice po out.length co :: c10 :: u11 :: u12 :: u13 :: c14 :: c15 :: c16 :: c17 :: c18 :: c19 :: c20 :: c21 :: c22 :: c23 :: c24 :: c25 :: c26 :: c27 :: c28 :: c29 :: c30 :: c31 :: c32 :: c33 :: c34 :: c35 :: c36 :: c37 :: c38 :: c39 :: c40 :: c41 :: c42 :: c43 :: c44 :: c45 :: c46 :: c47 :: c48 :: c49 :: c50 :: c51 :: c52 :: c53 :: c54 :: c55 :: c56 :: c57 :: c58 :: c59 :: c60 :: c61 :: c62 :: c63 :: c64 :: c65 :: c66 :: c67 :: c68 :: u69 :: u70 :: u71 :: u72 :: u73 :: u74 :: u75 :: u76 :: u77 :: u78 :: u79 :: u80 :: u81 :: u82 :: u83 :: u84 :: u85 :: u86 :: u87 :: u88 :: u89 :: u90 :: u91 :: u92 :: u93 :: u94 :: u95 :: u96 :: u97 :: u98 :: u99 :: u100 :: u101 :: u102 :: u103 :: u104 :: u105 :: u106 :: u107 :: u108 :: u109 :: u110 :: u111 :: u112 :: u113 :: u114 :: u115 :: u116 :: u117 :: u118 :: u119 :: u120 :: u121 :: u122 :: u123 :: u124 :: u125 :: u126 :: u127 :: u128 :: u129 :: u130 :: u131 :: u132 :: u133 :: u134 :: u135 :: u136 :: u137 :: u138 :: u139 :: u140 :: u141 :: u142 :: u143 :: u144 :: u145 :: u146 :: u147 :: u148 :: u149 :: u150 :: u151 :: u152 :: u153 :: u154 :: u155 :: u156 :: u157 :: u158 :: u159 :: u160 :: c161 :: c162 :: c163 :: c164 :: c165 :: c166 :: c167 :: c168 :: c169 :: c170 :: c171 :: c172 :: c173 :: c174 :: c175 :: c176 :: c177 :: c178 :: c179 :: c180 :: c181 :: c182 :: c183 :: c184 :: c185 :: c186 :: c187 :: c188 :: c189 :: c190 :: c191 :: c192 :: c193 :: c194 :: c195 :: c196 :: c197 :: c198 :: c199 :: c200 :: c201 :: c202 :: c203 :: c204 :: c205 :: c206 :: c207 :: c208 :: c209 :: c210 :: c211 :: c212 :: c213 :: c214 :: c215 :: c216 :: c217 :: c218 :: c219 :: c220 :: c221 :: c222 :: c223 :: c224 :: c225 :: c226 :: c227 :: c228 :: c229 :: c230 :: c231 :: c232 :: c233 :: c234 :: c235 :: c236 :: c237 :: c238 :: c239 :: c240 :: c241 :: c242 :: c243 :: c244 :: c245 :: c246 :: c247 :: c248 :: c249 :: c250 :: c251 :: c252 :: c253 :: c254 :: c255 :: c256 :: c257 :: c258 :: c259 :: c260 :: c261 :: c262 :: c263 :: c264 :: c265 :: c266 :: c267 :: c268 :: c269 :: c270 :: c271 :: c272 :: c273 :: c274 :: c275 :: c276 :: c277 :: c278 :: c279 :: c280 :: c281 :: c282 :: c283 :: c284 :: c285 :: c286 :: c287 :: c288 :: c289 :: c290 :: c291 :: c292 :: []), []⟩ wx) :
    Code.wp Tryz.prog (loop5 1) Q0 ⟨List.toArray (.slice (some ⟨bs, o3, none⟩) l.length cap :: c1 :: c2 :: c3 :: .slice (some ⟨bt, 0, none⟩) 24 24 :: .slice (some ⟨bm, 0, none⟩) 24 24 :: c6 :: .int .i64 k :: .int .i64 (a % 6) :: .slice po out.length co :: c10 :: .int .i64 0 :: c12 :: c13 :: c14 :: c15 :: c16 :: c17 :: c18 :: c19 :: c20 :: c21 :: c22 :: c23 :: c24 :: c25 :: c26 :: c27 :: c28 :: c29 :: c30 :: c31 :: c32 :: c33 :: c34 :: c35 :: c36 :: c37 :: c38 :: c39 :: c40 :: c41 :: c42 :: c43 :: c44 :: c45 :: c46 :: c47 :: c48 :: c49 :: c50 :: c51 :: c52 :: c53 :: c54 :: c55 :: c56 :: c57 :: c58 :: c59 :: c60 :: c61 :: c62 :: c63 :: c64 :: c65 :: c66 :: c67 :: c68 :: c69 :: c70 :: c71 :: c72 :: c73 :: c74 :: c75 :: c76 :: c77 :: c78 :: c79 :: c80 :: c81 :: c82 :: c83 :: c84 :: c85 :: c86 :: c87 :: c88 :: c89 :: c90 :: c91 :: c92 :: c93 :: c94 :: c95 :: c96 :: c97 :: c98 :: c99 :: c100 :: c101 :: c102 :: c103 :: c104 :: c105 :: c106 :: c107 :: c108 :: c109 :: c110 :: c111 :: c112 :: c113 :: c114 :: c115 :: c116 :: c117 :: c118 :: c119 :: c120 :: c121 :: c122 :: c123 :: c124 :: c125 :: c126 :: c127 :: c128 :: c129 :: c130 :: c131 :: c132 :: c133 :: c134 :: c135 :: c136 :: c137 :: c138 :: c139 :: c140 :: c141 :: c142 :: c143 :: c144 :: c145 :: c146 :: c147 :: c148 :: c149 :: c150 :: c151 :: c152 :: c153 :: c154 :: c155 :: c156 :: c157 :: c158 :: c159 :: c160 :: c161 :: c162 :: c163 :: c164 :: c165 :: c166 :: c167 :: c168 :: c169 :: c170 :: c171 :: c172 :: c173 :: c174 :: c175 :: c176 :: c177 :: c178 :: c179 :: c180 :: c181 :: c182 :: c183 :: c184 :: c185 :: c186 :: c187 :: c188 :: c189 :: c190 :: c191 :: c192 :: c193 :: c194 :: c195 :: c196 :: c197 :: c198 :: c199 :: c200 :: c201 :: c202 :: c203 :: c204 :: c205 :: c206 :: c207 :: c208 :: c209 :: c210 :: c211 :: c212 :: c213 :: c214 :: c215 :: c216 :: c217 :: c218 :: c219 :: c220 :: c221 :: c222 :: c223 :: c224 :: c225 :: c226 :: c227 :: c228 :: c229 :: c230 :: c231 :: c232 :: c233 :: c234 :: c235 :: c236 :: c237 :: c238 :: c239 :: c240 :: c241 :: c242 :: c243 :: c244 :: c245 :: c246 :: c247 :: c248 :: c249 :: c250 :: c251 :: c252 :: c253 :: c254 :: c255 :: c256 :: c257 :: c258 :: c259 :: c260 :: c261 :: c262 :: c263 :: c264 :: c265 :: c266 :: c267 :: c268 :: c269 :: c270 :: c271 :: c272 :: c273 :: c274 :: c275 :: c276 :: c277 :: c278 :: c279 :: c280 :: c281 :: c282 :: c283 :: c284 :: c285 :: c286 :: c287 :: c288 :: c289 :: c290 :: c291 :: c292 :: []), []⟩ w1 := by
  conv => arg 2; whnf
  go_loopw [11] (fun i wr => ∃ q : Nat, q ≤ out.length ∧ i = .int .i64 q ∧ St Nil w wr [ow (.slice po out.length co) 84 23 out.length (out.map Ch.cells).flatten, mp keyE Ch.val r M' c', cb bl ((last.set (slot ⟨a, ids, med⟩) ((k : Int) + 1)).map (Value.int .i64)) 3, cb bm ((mdTo ⟨a, ids, med⟩ md (out.take q)).map (Value.int .u32)) 29, cb bt ((thTo ⟨a, ids, med⟩ th (out.take q)).map Value.bool) 4, cb o [.map (some r)] 98]) (fun i _ => out.length - (intOf i).toNat)
  case atStart => exact ⟨0, Nat.zero_le _, rfl, S⟩
  case round =>
    clear S
    obtain ⟨q, hq, rfl, S⟩ := hrel
    have hol : out.length ≤ 28 := by
      have h1 := hout.length_eq
      have h2 : (outOf M (pfx a) (wantTo ⟨a, ids, med⟩ 4)).length ≤ M.length + 4 := by
        unfold outOf dels; rw [List.length_append, List.length_map]
        have h3 := List.length_filter_le (toDel (pfx a) (wantTo ⟨a, ids, med⟩ 4)) M
        have h4 := List.length_filter_le (toAdd M) (wantTo ⟨a, ids, med⟩ 4)
        have h5 := wantTo_len ⟨a, ids, med⟩ 4
        omega
      have h6 := hI.len
      omega
    by_cases hqlt : q < out.length
    · obtain ⟨p', cap', he, hrow'⟩ := RowIn.of_ow (X := fun _ => True) (S.get Has.head) (fun _ _ => trivial)
      cases he
      obtain ⟨bo, _, _, _, rfl, -⟩ := hrow' (by omega)
      clear hrow'
      obtain ⟨t, ht1, ht2, ht3⟩ := hI.seen (s := ⟨a, ids, med⟩) hout hasc hqlt
      obtain ⟨j, hj, _, hid, _⟩ := hI.outs (s := ⟨a, ids, med⟩) hout out[q] (List.getElem_mem hqlt)
      have hpx := hps out[q] (List.getElem_mem hqlt)
      have hprev : 0 < q → ∃ ip : Int, (out.map Ch.cells).flatten[(q - 1) * 23 + 1 + 4]? = some (.int .u32 ip) ∧ ip < out[q].n.id := fun h0 =>
        ⟨(out[q - 1]'(by omega)).n.id, flat_part cells23 out (q - 1) 5 (out[q - 1]'(by omega)) _ (by simp [show q - 1 < out.length by omega]) rfl, List.pairwise_iff_getElem.1 hasc (q - 1) q (by omega) hqlt (by omega)⟩
      have hcut := flat_cut cells23 out q out[q] (by simp [hqlt])
      have htk := take_succ' hqlt
      have hth1 : thTo ⟨a, ids, med⟩ th (out.take (q + 1)) = (thTo ⟨a, ids, med⟩ th (out.take q)).set (pos ⟨a, ids, med⟩ out[q]) (!out[q].gone) := by rw [htk]; exact setAll_snoc _ _ _ _ _
      have hmd1 : mdTo ⟨a, ids, med⟩ md (out.take (q + 1)) = (mdTo ⟨a, ids, med⟩ md (out.take q)).set (pos ⟨a, ids, med⟩ out[q]) out[q].a.med := by rw [htk]; exact setAll_snoc _ _ _ _ _
      have htl : (thTo ⟨a, ids, med⟩ th (out.take q)).length = 24 := (setAll_length _ _ _ _).trans hI.tlen
      have hml : (mdTo ⟨a, ids, med⟩ md (out.take q)).length = 24 := (setAll_length _ _ _ _).trans hI.mlen
      have HI := Lib.hid hI; have HO := Lib.hid hout; have HA := Lib.hid hasc; have HP := Lib.hid hps
      clear hI hout hasc hps htk
      generalize out[q] = x at *
      generalize thTo ⟨a, ids, med⟩ th (out.take q) = tq at *
      generalize mdTo ⟨a, ids, med⟩ md (out.take q) = mq at *
      obtain ⟨g, ⟨⟨f, rd, ad, ln⟩, ii, lb⟩, og, hd, mm⟩ := x
      simp only at hpx hid
      simp only [pfx, Pfx.mk.injEq] at hpx
      obtain ⟨rfl, rfl, rfl, rfl⟩ := hpx
      subst hid
      have hpos : pos ⟨a, ids, med⟩ ⟨g, ⟨⟨1 + a % 6 / 3, 0, adr a, 8⟩, (j : Int), lb⟩, og, hd, mm⟩ = 4 * slot ⟨a, ids, med⟩ + j := by simp [pos]
      rw [hpos] at ht1 ht3 hth1 hmd1
      clear hpos
      have hsl := slot_lt ⟨a, ids, med⟩
      have hsa : a % 6 = (slot ⟨a, ids, med⟩ : Int) := by simp [slot]; omega
      have hnn : (4 * (a % 6) + (j : Int)).toNat = 4 * slot ⟨a, ids, med⟩ + j := by omega
      have hn24 : 4 * slot ⟨a, ids, med⟩ + j < 24 := by omega
      generalize 4 * slot ⟨a, ids, med⟩ + j = n at *
      have Hnn := Lib.hid hnn; clear hnn hsa
      have Hcut := Lib.hid hcut; clear hcut
      have Hth1 := Lib.hid hth1; have Hmd1 := Lib.hid hmd1; clear hth1 hmd1
      have Ht1 := Lib.hid (map_get Value.bool ht1); clear ht1
      have hle1 : decide (n + 1 ≤ (tq.map Value.bool).length) = true := by rw [List.length_map, htl]; exact decide_eq_true hn24
      have hle2 : decide (n + 1 ≤ (mq.map (Value.int .u32)).length) = true := by rw [List.length_map, hml]; exact decide_eq_true hn24
      have Hle1 := Lib.hid hle1; have Hle2 := Lib.hid hle2; clear hle1 hle2 htl hml
      have hj3 : decide ((3 : Int) < (j : Int)) = false := decide_eq_false (by omega)
      simp only [Ch.cells] at Hcut
      by_cases hq0 : 0 < q
      · obtain ⟨ip, hpc, hpi⟩ := hprev hq0
        have hjp : decide ((j : Int) ≤ ip) = false := decide_eq_false (by simp only at hpi; omega)
        have Hpc := Lib.hid hpc; clear hpc hprev hpi
        have hq0b : decide ((0 : Int) < (q : Int)) = true := decide_eq_true (by omega)
        cases g
        · cases t
          · clear ht2 ht3
            repeat' (first
              | go_big_hide
              | go_big_move
              | go_big_cond
              | go_big_open
              | (show Oper.wp _ ⟨_, .indexAddr 76 _ _, _, _, _, _⟩ _ _ _ _; refine wp_indexAddr (i := (q : Int)) (q := q * 23) rfl rfl (by omega) (by omega) (by simp) ?_; simp only [Act.put, List.setIfInBounds_toArray, List.set_cons_zero, List.set_cons_succ])
              | (show Oper.wp _ ⟨_, .load _ _, _, _, _, _⟩ _ _ _ _; refine wp_loadNO S rfl Has.head Hcut.out rfl ?_; simp only [Act.put, List.setIfInBounds_toArray, List.set_cons_zero, List.set_cons_succ])
              | (show wpList _ _ _ (⟨_, _, _, _, _, some _⟩ :: _) _ _; first | (refine wpList_g rfl ?_ ?_ <;> (intro hc; (try simp only [Bool.not_true, Bool.not_false, reduceCtorEq] at hc); (try (change True at hc; clear hc)); (try simp only [hc, Bool.not_true, Bool.not_false]); (try simp only [Act.put, List.setIfInBounds_toArray, List.set_cons_zero, List.set_cons_succ, List.drop_zero, List.drop_succ_cons, List.take_succ_cons, List.take_zero, setL]))) | (refine wpList_g0 rfl ?_; (try simp only [Act.put, List.setIfInBounds_toArray, List.set_cons_zero, List.set_cons_succ, List.drop_zero, List.drop_succ_cons, List.take_succ_cons, List.take_zero, setL])))
              | (show Oper.wp _ _ _ _ _ _; (first | (show Oper.wp _ ⟨_, .alloc _, _, _, _, _⟩ _ _ _ _; refine wp_alloc S rfl ?_; clear S; intro b w1 S; (try simp only [Value.cells, List.toList_toArray] at S)) | (show Oper.wp _ ⟨_, .load _ _, _, _, _, _⟩ _ _ _ _; refine wp_load1 S rfl (by with_reducible (repeat (first | exact Has.head | refine Has.tail ?_))) rfl ?_) | (show Oper.wp _ ⟨_, .load _ _, _, _, _, _⟩ _ _ _ _; refine wp_loadN S rfl (by with_reducible (repeat (first | exact Has.head | refine Has.tail ?_))) rfl rfl ?_) | (show Oper.wp _ ⟨_, .store _ _ _, _, _, _, _⟩ _ _ _ _; refine wp_store S rfl rfl rfl (by with_reducible (repeat (first | exact Upd.head | apply Upd.tail))) (by first | exact .inl (Nat.le_refl _) | exact .inr (Nat.le_refl _)) rfl rfl rfl rfl ?_; clear S; intro w1 S; simp only [List.set_cons_zero, List.set_cons_succ, setL, Act.eval, Array.getD_eq_getD_getElem?, List.getElem?_toArray, List.getElem?_cons_succ, List.getElem?_cons_zero, Option.getD_some] at S) | (show Oper.wp _ ⟨_, .binOp .eql _ _ _ _, _, _, _, _⟩ _ _ _ _; refine wp_eqAgg rfl rfl rfl rfl ?_; simp only [eqCells, eqVal, Bool.and_true]) | (show Oper.wp _ ⟨_, .binOp .neq _ _ _ _, _, _, _, _⟩ _ _ _ _; refine wp_neAgg rfl rfl rfl rfl ?_; simp only [eqCells, eqVal, Bool.and_true])) <;> simp only [Act.put, List.setIfInBounds_toArray, List.set_cons_zero, List.set_cons_succ, List.drop_zero, List.drop_succ_cons, List.take_succ_cons, List.take_zero, setL])
              | go_step)
            refine wp_region_D (fun w' => St Nil w w' _) mixed (by kernel_rfl) S.drew ?_
            clear S
            repeat' (first
              | (apply HD_op rfl rfl
                 case' h =>
                   intro wz S K hK
                   repeat' (first
                     | (go_at_K; exact hK _ S)
                     | go_big_hide
                     | go_big_move
                     | go_big_cond
                     | go_big_open
                     | (show Oper.wp _ ⟨_, .indexAddr 69 _ _, _, _, _, _⟩ _ _ _ _; refine wp_indexAddr (i := (k : Int)) (q := o3 + k * 3) rfl rfl (by omega) (by omega) (by simp) ?_; simp only [Act.put, List.setIfInBounds_toArray, List.set_cons_zero, List.set_cons_succ])
                     | (show Oper.wp _ ⟨_, .load _ _, _, _, _, _⟩ _ _ _ _; refine wp_load1_at (off := o3 + k * 3) rfl (HC.out _ (S.mod.block bs hbs0 (fun h => h)) 0 _ rfl) ?_; simp only [Act.put, List.setIfInBounds_toArray, List.set_cons_zero, List.set_cons_succ])
                     | (show Oper.wp _ ⟨_, .binOp .neq _ _ _ _, _, _, _, _⟩ _ _ _ _; refine wp_neAgg (xs := Pfx.cells ⟨1 + a % 6 / 3, 0, adr a, 8⟩) (ys := Pfx.cells ⟨1 + a % 6 / 3, 0, adr a, 8⟩) rfl rfl rfl rfl ?_; rw [eqP', eqPB_self]; simp only [Bool.not_true, Act.put, List.setIfInBounds_toArray, List.set_cons_zero, List.set_cons_succ])
                     | (show Oper.wp _ ⟨_, .indexAddr 76 _ _, _, _, _, _⟩ _ _ _ _; refine wp_indexAddr (i := (q : Int) - 1) (q := (q - 1) * 23) rfl rfl (by omega) (by omega) (by rw [show ((q : Int) - 1).toNat = q - 1 by omega]; simp) ?_; simp only [Act.put, List.setIfInBounds_toArray, List.set_cons_zero, List.set_cons_succ])
                     | (show Oper.wp _ ⟨_, .load _ _, _, _, _, _⟩ _ _ _ _; refine wp_load1O S rfl (by with_reducible (repeat (first | exact Has.head | refine Has.tail ?_))) Hpc.out ?_; simp only [Act.put, List.setIfInBounds_toArray, List.set_cons_zero, List.set_cons_succ])
                     | (show Oper.wp _ _ _ _ _ _; (first | (show Oper.wp _ ⟨_, .alloc _, _, _, _, _⟩ _ _ _ _; refine wp_alloc S rfl ?_; clear S; intro b w1 S; (try simp only [Value.cells, List.toList_toArray] at S)) | (show Oper.wp _ ⟨_, .load _ _, _, _, _, _⟩ _ _ _ _; refine wp_load1 S rfl (by with_reducible (repeat (first | exact Has.head | refine Has.tail ?_))) rfl ?_) | (show Oper.wp _ ⟨_, .load _ _, _, _, _, _⟩ _ _ _ _; refine wp_loadN S rfl (by with_reducible (repeat (first | exact Has.head | refine Has.tail ?_))) rfl rfl ?_) | (show Oper.wp _ ⟨_, .store _ _ _, _, _, _, _⟩ _ _ _ _; refine wp_store S rfl rfl rfl (by with_reducible (repeat (first | exact Upd.head | apply Upd.tail))) (by first | exact .inl (Nat.le_refl _) | exact .inr (Nat.le_refl _)) rfl rfl rfl rfl ?_; clear S; intro w1 S; simp only [List.set_cons_zero, List.set_cons_succ, setL, Act.eval, Array.getD_eq_getD_getElem?, List.getElem?_toArray, List.getElem?_cons_succ, List.getElem?_cons_zero, Option.getD_some] at S) | (show Oper.wp _ ⟨_, .binOp .eql _ _ _ _, _, _, _, _⟩ _ _ _ _; refine wp_eqAgg rfl rfl rfl rfl ?_; simp only [eqCells, eqVal, Bool.and_true]) | (show Oper.wp _ ⟨_, .binOp .neq _ _ _ _, _, _, _, _⟩ _ _ _ _; refine wp_neAgg rfl rfl rfl rfl ?_; simp only [eqCells, eqVal, Bool.and_true])))
                     | (go_at_call 36; refine (prefix36_any a _ ha0 ha1).mono ?_; rintro e w1 ⟨rfl, hm⟩; replace S := S.step hm; (try dsimp only))
                     | go_step)
                 simp only [Act.put, List.setIfInBounds_toArray, List.set_cons_zero, List.set_cons_succ, List.drop_zero, List.drop_succ_cons, List.take_succ_cons, List.take_zero, setL])
              | (refine HD_skip rfl ?_; simp only [Act.put, List.setIfInBounds_toArray, List.set_cons_zero, List.set_cons_succ, List.drop_zero, List.drop_succ_cons, List.take_succ_cons, List.take_zero, setL])
              | (refine HD_by rfl rfl ?_ ?_ <;> (intro hc; simp only [hc, Bool.not_true, Bool.not_false]))
              | (refine HD_nil ?_; intro w1 S))
            repeat' (first
              | go_big_hide
              | go_big_move
              | go_big_cond
              | go_big_open
              | (show wpList _ _ _ (⟨_, _, _, _, _, some _⟩ :: _) _ _; first | (refine wpList_g rfl ?_ ?_ <;> (intro hc; (try simp only [Bool.not_true, Bool.not_false, reduceCtorEq] at hc); (try (change True at hc; clear hc)); (try simp only [hc, Bool.not_true, Bool.not_false]); (try simp only [Act.put, List.setIfInBounds_toArray, List.set_cons_zero, List.set_cons_succ, List.drop_zero, List.drop_succ_cons, List.take_succ_cons, List.take_zero, setL]))) | (refine wpList_g0 rfl ?_; (try simp only [Act.put, List.setIfInBounds_toArray, List.set_cons_zero, List.set_cons_succ, List.drop_zero, List.drop_succ_cons, List.take_succ_cons, List.take_zero, setL])))
              | (show Oper.wp _ _ _ _ _ _; (first | (show Oper.wp _ ⟨_, .alloc _, _, _, _, _⟩ _ _ _ _; refine wp_alloc S rfl ?_; clear S; intro b w1 S; (try simp only [Value.cells, List.toList_toArray] at S)) | (show Oper.wp _ ⟨_, .load _ _, _, _, _, _⟩ _ _ _ _; refine wp_load1 S rfl (by with_reducible (repeat (first | exact Has.head | refine Has.tail ?_))) rfl ?_) | (show Oper.wp _ ⟨_, .load _ _, _, _, _, _⟩ _ _ _ _; refine wp_loadN S rfl (by with_reducible (repeat (first | exact Has.head | refine Has.tail ?_))) rfl rfl ?_) | (show Oper.wp _ ⟨_, .store _ _ _, _, _, _, _⟩ _ _ _ _; refine wp_store S rfl rfl rfl (by with_reducible (repeat (first | exact Upd.head | apply Upd.tail))) (by first | exact .inl (Nat.le_refl _) | exact .inr (Nat.le_refl _)) rfl rfl rfl rfl ?_; clear S; intro w1 S; simp only [List.set_cons_zero, List.set_cons_succ, setL, Act.eval, Array.getD_eq_getD_getElem?, List.getElem?_toArray, List.getElem?_cons_succ, List.getElem?_cons_zero, Option.getD_some] at S) | (show Oper.wp _ ⟨_, .binOp .eql _ _ _ _, _, _, _, _⟩ _ _ _ _; refine wp_eqAgg rfl rfl rfl rfl ?_; simp only [eqCells, eqVal, Bool.and_true]) | (show Oper.wp _ ⟨_, .binOp .neq _ _ _ _, _, _, _, _⟩ _ _ _ _; refine wp_neAgg rfl rfl rfl rfl ?_; simp only [eqCells, eqVal, Bool.and_true])) <;> simp only [Act.put, List.setIfInBounds_toArray, List.set_cons_zero, List.set_cons_succ, List.drop_zero, List.drop_succ_cons, List.take_succ_cons, List.take_zero, setL])
              | go_step)
            refine wp_region_D (fun w' => St Nil w w' _) mixed (by kernel_rfl) S.drew ?_
            clear S
            repeat' (first
              | (apply HD_op rfl rfl
                 case' h =>
                   intro wz S K hK
                   repeat' (first
                     | (go_at_K; exact hK _ S)
                     | go_big_hide
                     | go_big_move
                     | go_big_cond
                     | go_big_open
                     | (show Oper.wp _ ⟨_, .indexAddr 72 _ _, _, _, _, _⟩ _ _ _ _; refine wp_indexAddr (i := 4 * (a % 6) + (j : Int)) (q := n) rfl rfl (by omega) (by omega) (by rw [Hnn.out]; simp) ?_; simp only [Act.put, List.setIfInBounds_toArray, List.set_cons_zero, List.set_cons_succ])
                     | (show Oper.wp _ ⟨_, .indexAddr 31 _ _, _, _, _, _⟩ _ _ _ _; refine wp_indexAddr (i := 4 * (a % 6) + (j : Int)) (q := n) rfl rfl (by omega) (by omega) (by rw [Hnn.out]; simp) ?_; simp only [Act.put, List.setIfInBounds_toArray, List.set_cons_zero, List.set_cons_succ])
                     | (show Oper.wp _ ⟨_, .load _ _, _, _, _, _⟩ _ _ _ _; refine wp_load1 S rfl (by with_reducible (repeat (first | exact Has.head | refine Has.tail ?_))) Ht1.out ?_; simp only [Act.put, List.setIfInBounds_toArray, List.set_cons_zero, List.set_cons_succ])
                     | (show Oper.wp _ _ _ _ _ _; (first | (show Oper.wp _ ⟨_, .alloc _, _, _, _, _⟩ _ _ _ _; refine wp_alloc S rfl ?_; clear S; intro b w1 S; (try simp only [Value.cells, List.toList_toArray] at S)) | (show Oper.wp _ ⟨_, .load _ _, _, _, _, _⟩ _ _ _ _; refine wp_load1 S rfl (by with_reducible (repeat (first | exact Has.head | refine Has.tail ?_))) rfl ?_) | (show Oper.wp _ ⟨_, .load _ _, _, _, _, _⟩ _ _ _ _; refine wp_loadN S rfl (by with_reducible (repeat (first | exact Has.head | refine Has.tail ?_))) rfl rfl ?_) | (show Oper.wp _ ⟨_, .store _ _ _, _, _, _, _⟩ _ _ _ _; refine wp_store S rfl rfl rfl (by with_reducible (repeat (first | exact Upd.head | apply Upd.tail))) (by first | exact .inl (Nat.le_refl _) | exact .inr (Nat.le_refl _)) rfl rfl rfl rfl ?_; clear S; intro w1 S; simp only [List.set_cons_zero, List.set_cons_succ, setL, Act.eval, Array.getD_eq_getD_getElem?, List.getElem?_toArray, List.getElem?_cons_succ, List.getElem?_cons_zero, Option.getD_some] at S) | (show Oper.wp _ ⟨_, .binOp .eql _ _ _ _, _, _, _, _⟩ _ _ _ _; refine wp_eqAgg rfl rfl rfl rfl ?_; simp only [eqCells, eqVal, Bool.and_true]) | (show Oper.wp _ ⟨_, .binOp .neq _ _ _ _, _, _, _, _⟩ _ _ _ _; refine wp_neAgg rfl rfl rfl rfl ?_; simp only [eqCells, eqVal, Bool.and_true])))
                     | go_step)
                 simp only [Act.put, List.setIfInBounds_toArray, List.set_cons_zero, List.set_cons_succ, List.drop_zero, List.drop_succ_cons, List.take_succ_cons, List.take_zero, setL])
              | (refine HD_skip rfl ?_; simp only [Act.put, List.setIfInBounds_toArray, List.set_cons_zero, List.set_cons_succ, List.drop_zero, List.drop_succ_cons, List.take_succ_cons, List.take_zero, setL])
              | (refine HD_by rfl rfl ?_ ?_ <;> (intro hc; simp only [hc, Bool.not_true, Bool.not_false]))
              | (refine HD_nil ?_; intro w1 S))
            repeat' (first
              | go_big_hide
              | go_big_move
              | go_big_cond
              | go_big_open
              | (show Oper.wp _ ⟨_, .indexAddr 72 _ _, _, _, _, _⟩ _ _ _ _; refine wp_indexAddr (i := 4 * (a % 6) + (j : Int)) (q := n) rfl rfl (by omega) (by omega) (by rw [Hnn.out]; simp) ?_; simp only [Act.put, List.setIfInBounds_toArray, List.set_cons_zero, List.set_cons_succ])
              | (show Oper.wp _ ⟨_, .indexAddr 31 _ _, _, _, _, _⟩ _ _ _ _; refine wp_indexAddr (i := 4 * (a % 6) + (j : Int)) (q := n) rfl rfl (by omega) (by omega) (by rw [Hnn.out]; simp) ?_; simp only [Act.put, List.setIfInBounds_toArray, List.set_cons_zero, List.set_cons_succ])
              | (show Oper.wp _ ⟨_, .store _ _ _, _, _, _, _⟩ _ _ _ _; refine wp_store S rfl rfl rfl (Upd.tail (Upd.tail (Upd.tail (Upd.tail (Upd.tail (Upd.head)))))) (.inl (Nat.le_refl _)) rfl (set_map Value.bool tq n _) Hle1.out rfl ?_; clear S; intro w1 S; simp only [Act.put, List.setIfInBounds_toArray, List.set_cons_zero, List.set_cons_succ])
              | (show Oper.wp _ ⟨_, .store _ _ _, _, _, _, _⟩ _ _ _ _; refine wp_store S rfl rfl rfl (Upd.tail (Upd.tail (Upd.tail (Upd.tail (Upd.head))))) (.inl (Nat.le_refl _)) rfl (set_map (Value.int .u32) mq n _) Hle2.out rfl ?_; clear S; intro w1 S; simp only [Act.put, List.setIfInBounds_toArray, List.set_cons_zero, List.set_cons_succ])
              | (show wpList _ _ _ (⟨_, _, _, _, _, some _⟩ :: _) _ _; first | (refine wpList_g rfl ?_ ?_ <;> (intro hc; (try simp only [Bool.not_true, Bool.not_false, reduceCtorEq] at hc); (try (change True at hc; clear hc)); (try simp only [hc, Bool.not_true, Bool.not_false]); (try simp only [Act.put, List.setIfInBounds_toArray, List.set_cons_zero, List.set_cons_succ, List.drop_zero, List.drop_succ_cons, List.take_succ_cons, List.take_zero, setL]))) | (refine wpList_g0 rfl ?_; (try simp only [Act.put, List.setIfInBounds_toArray, List.set_cons_zero, List.set_cons_succ, List.drop_zero, List.drop_succ_cons, List.take_succ_cons, List.take_zero, setL])))
              | (show Oper.wp _ _ _ _ _ _; (first | (show Oper.wp _ ⟨_, .alloc _, _, _, _, _⟩ _ _ _ _; refine wp_alloc S rfl ?_; clear S; intro b w1 S; (try simp only [Value.cells, List.toList_toArray] at S)) | (show Oper.wp _ ⟨_, .load _ _, _, _, _, _⟩ _ _ _ _; refine wp_load1 S rfl (by with_reducible (repeat (first | exact Has.head | refine Has.tail ?_))) rfl ?_) | (show Oper.wp _ ⟨_, .load _ _, _, _, _, _⟩ _ _ _ _; refine wp_loadN S rfl (by with_reducible (repeat (first | exact Has.head | refine Has.tail ?_))) rfl rfl ?_) | (show Oper.wp _ ⟨_, .store _ _ _, _, _, _, _⟩ _ _ _ _; refine wp_store S rfl rfl rfl (by with_reducible (repeat (first | exact Upd.head | apply Upd.tail))) (by first | exact .inl (Nat.le_refl _) | exact .inr (Nat.le_refl _)) rfl rfl rfl rfl ?_; clear S; intro w1 S; simp only [List.set_cons_zero, List.set_cons_succ, setL, Act.eval, Array.getD_eq_getD_getElem?, List.getElem?_toArray, List.getElem?_cons_succ, List.getElem?_cons_zero, Option.getD_some] at S) | (show Oper.wp _ ⟨_, .binOp .eql _ _ _ _, _, _, _, _⟩ _ _ _ _; refine wp_eqAgg rfl rfl rfl rfl ?_; simp only [eqCells, eqVal, Bool.and_true]) | (show Oper.wp _ ⟨_, .binOp .neq _ _ _ _, _, _, _, _⟩ _ _ _ _; refine wp_neAgg rfl rfl rfl rfl ?_; simp only [eqCells, eqVal, Bool.and_true])) <;> simp only [Act.put, List.setIfInBounds_toArray, List.set_cons_zero, List.set_cons_succ, List.drop_zero, List.drop_succ_cons, List.take_succ_cons, List.take_zero, setL])
              | go_step)
            go_roundw
            case rel => exact ⟨q + 1, by omega, by go_num, by rw [Hth1.out, Hmd1.out]; exact S.sub (List.Sublist.cons _ (List.Sublist.refl _))⟩
            case measure => simp [intOf]; omega
          · obtain ⟨m', hm', hne'⟩ := ht3 rfl rfl
            have Hm1 := Lib.hid (map_get (Value.int .u32) hm'); clear hm' ht2 ht3
            have hme : (m' == mm) = false := by rw [beq_eq_false_iff_ne]; exact hne'
            clear hne'
            repeat' (first
              | go_big_hide
              | go_big_move
              | go_big_cond
              | go_big_open
              | (show Oper.wp _ ⟨_, .indexAddr 76 _ _, _, _, _, _⟩ _ _ _ _; refine wp_indexAddr (i := (q : Int)) (q := q * 23) rfl rfl (by omega) (by omega) (by simp) ?_; simp only [Act.put, List.setIfInBounds_toArray, List.set_cons_zero, List.set_cons_succ])
              | (show Oper.wp _ ⟨_, .load _ _, _, _, _, _⟩ _ _ _ _; refine wp_loadNO S rfl Has.head Hcut.out rfl ?_; simp only [Act.put, List.setIfInBounds_toArray, List.set_cons_zero, List.set_cons_succ])
              | (show wpList _ _ _ (⟨_, _, _, _, _, some _⟩ :: _) _ _; first | (refine wpList_g rfl ?_ ?_ <;> (intro hc; (try simp only [Bool.not_true, Bool.not_false, reduceCtorEq] at hc); (try (change True at hc; clear hc)); (try simp only [hc, Bool.not_true, Bool.not_false]); (try simp only [Act.put, List.setIfInBounds_toArray, List.set_cons_zero, List.set_cons_succ, List.drop_zero, List.drop_succ_cons, List.take_succ_cons, List.take_zero, setL]))) | (refine wpList_g0 rfl ?_; (try simp only [Act.put, List.setIfInBounds_toArray, List.set_cons_zero, List.set_cons_succ, List.drop_zero, List.drop_succ_cons, List.take_succ_cons, List.take_zero, setL])))
              | (show Oper.wp _ _ _ _ _ _; (first | (show Oper.wp _ ⟨_, .alloc _, _, _, _, _⟩ _ _ _ _; refine wp_alloc S rfl ?_; clear S; intro b w1 S; (try simp only [Value.cells, List.toList_toArray] at S)) | (show Oper.wp _ ⟨_, .load _ _, _, _, _, _⟩ _ _ _ _; refine wp_load1 S rfl (by with_reducible (repeat (first | exact Has.head | refine Has.tail ?_))) rfl ?_) | (show Oper.wp _ ⟨_, .load _ _, _, _, _, _⟩ _ _ _ _; refine wp_loadN S rfl (by with_reducible (repeat (first | exact Has.head | refine Has.tail ?_))) rfl rfl ?_) | (show Oper.wp _ ⟨_, .store _ _ _, _, _, _, _⟩ _ _ _ _; refine wp_store S rfl rfl rfl (by with_reducible (repeat (first | exact Upd.head | apply Upd.tail))) (by first | exact .inl (Nat.le_refl _) | exact .inr (Nat.le_refl _)) rfl rfl rfl rfl ?_; clear S; intro w1 S; simp only [List.set_cons_zero, List.set_cons_succ, setL, Act.eval, Array.getD_eq_getD_getElem?, List.getElem?_toArray, List.getElem?_cons_succ, List.getElem?_cons_zero, Option.getD_some] at S) | (show Oper.wp _ ⟨_, .binOp .eql _ _ _ _, _, _, _, _⟩ _ _ _ _; refine wp_eqAgg rfl rfl rfl rfl ?_; simp only [eqCells, eqVal, Bool.and_true]) | (show Oper.wp _ ⟨_, .binOp .neq _ _ _ _, _, _, _, _⟩ _ _ _ _; refine wp_neAgg rfl rfl rfl rfl ?_; simp only [eqCells, eqVal, Bool.and_true])) <;> simp only [Act.put, List.setIfInBounds_toArray, List.set_cons_zero, List.set_cons_succ, List.drop_zero, List.drop_succ_cons, List.take_succ_cons, List.take_zero, setL])
              | go_step)
            refine wp_region_D (fun w' => St Nil w w' _) mixed (by kernel_rfl) S.drew ?_
            clear S
            repeat' (first
              | (apply HD_op rfl rfl
                 case' h =>
                   intro wz S K hK
                   repeat' (first
                     | (go_at_K; exact hK _ S)
                     | go_big_hide
                     | go_big_move
                     | go_big_cond
                     | go_big_open
                     | (show Oper.wp _ ⟨_, .indexAddr 69 _ _, _, _, _, _⟩ _ _ _ _; refine wp_indexAddr (i := (k : Int)) (q := o3 + k * 3) rfl rfl (by omega) (by omega) (by simp) ?_; simp only [Act.put, List.setIfInBounds_toArray, List.set_cons_zero, List.set_cons_succ])
                     | (show Oper.wp _ ⟨_, .load _ _, _, _, _, _⟩ _ _ _ _; refine wp_load1_at (off := o3 + k * 3) rfl (HC.out _ (S.mod.block bs hbs0 (fun h => h)) 0 _ rfl) ?_; simp only [Act.put, List.setIfInBounds_toArray, List.set_cons_zero, List.set_cons_succ])
                     | (show Oper.wp _ ⟨_, .binOp .neq _ _ _ _, _, _, _, _⟩ _ _ _ _; refine wp_neAgg (xs := Pfx.cells ⟨1 + a % 6 / 3, 0, adr a, 8⟩) (ys := Pfx.cells ⟨1 + a % 6 / 3, 0, adr a, 8⟩) rfl rfl rfl rfl ?_; rw [eqP', eqPB_self]; simp only [Bool.not_true, Act.put, List.setIfInBounds_toArray, List.set_cons_zero, List.set_cons_succ])
                     | (show Oper.wp _ ⟨_, .indexAddr 76 _ _, _, _, _, _⟩ _ _ _ _; refine wp_indexAddr (i := (q : Int) - 1) (q := (q - 1) * 23) rfl rfl (by omega) (by omega) (by rw [show ((q : Int) - 1).toNat = q - 1 by omega]; simp) ?_; simp only [Act.put, List.setIfInBounds_toArray, List.set_cons_zero, List.set_cons_succ])
                     | (show Oper.wp _ ⟨_, .load _ _, _, _, _, _⟩ _ _ _ _; refine wp_load1O S rfl (by with_reducible (repeat (first | exact Has.head | refine Has.tail ?_))) Hpc.out ?_; simp only [Act.put, List.setIfInBounds_toArray, List.set_cons_zero, List.set_cons_succ])
                     | (show Oper.wp _ _ _ _ _ _; (first | (show Oper.wp _ ⟨_, .alloc _, _, _, _, _⟩ _ _ _ _; refine wp_alloc S rfl ?_; clear S; intro b w1 S; (try simp only [Value.cells, List.toList_toArray] at S)) | (show Oper.wp _ ⟨_, .load _ _, _, _, _, _⟩ _ _ _ _; refine wp_load1 S rfl (by with_reducible (repeat (first | exact Has.head | refine Has.tail ?_))) rfl ?_) | (show Oper.wp _ ⟨_, .load _ _, _, _, _, _⟩ _ _ _ _; refine wp_loadN S rfl (by with_reducible (repeat (first | exact Has.head | refine Has.tail ?_))) rfl rfl ?_) | (show Oper.wp _ ⟨_, .store _ _ _, _, _, _, _⟩ _ _ _ _; refine wp_store S rfl rfl rfl (by with_reducible (repeat (first | exact Upd.head | apply Upd.tail))) (by first | exact .inl (Nat.le_refl _) | exact .inr (Nat.le_refl _)) rfl rfl rfl rfl ?_; clear S; intro w1 S; simp only [List.set_cons_zero, List.set_cons_succ, setL, Act.eval, Array.getD_eq_getD_getElem?, List.getElem?_toArray, List.getElem?_cons_succ, List.getElem?_cons_zero, Option.getD_some] at S) | (show Oper.wp _ ⟨_, .binOp .eql _ _ _ _, _, _, _, _⟩ _ _ _ _; refine wp_eqAgg rfl rfl rfl rfl ?_; simp only [eqCells, eqVal, Bool.and_true]) | (show Oper.wp _ ⟨_, .binOp .neq _ _ _ _, _, _, _, _⟩ _ _ _ _; refine wp_neAgg rfl rfl rfl rfl ?_; simp only [eqCells, eqVal, Bool.and_true])))
                     | (go_at_call 36; refine (prefix36_any a _ ha0 ha1).mono ?_; rintro e w1 ⟨rfl, hm⟩; replace S := S.step hm; (try dsimp only))
                     | go_step)
                 simp only [Act.put, List.setIfInBounds_toArray, List.set_cons_zero, List.set_cons_succ, List.drop_zero, List.drop_succ_cons, List.take_succ_cons, List.take_zero, setL])
              | (refine HD_skip rfl ?_; simp only [Act.put, List.setIfInBounds_toArray, List.set_cons_zero, List.set_cons_succ, List.drop_zero, List.drop_succ_cons, List.take_succ_cons, List.take_zero, setL])
              | (refine HD_by rfl rfl ?_ ?_ <;> (intro hc; simp only [hc, Bool.not_true, Bool.not_false]))
              | (refine HD_nil ?_; intro w1 S))
            repeat' (first
              | go_big_hide
              | go_big_move
              | go_big_cond
              | go_big_open
              | (show wpList _ _ _ (⟨_, _, _, _, _, some _⟩ :: _) _ _; first | (refine wpList_g rfl ?_ ?_ <;> (intro hc; (try simp only [Bool.not_true, Bool.not_false, reduceCtorEq] at hc); (try (change True at hc; clear hc)); (try simp only [hc, Bool.not_true, Bool.not_false]); (try simp only [Act.put, List.setIfInBounds_toArray, List.set_cons_zero, List.set_cons_succ, List.drop_zero, List.drop_succ_cons, List.take_succ_cons, List.take_zero, setL]))) | (refine wpList_g0 rfl ?_; (try simp only [Act.put, List.setIfInBounds_toArray, List.set_cons_zero, List.set_cons_succ, List.drop_zero, List.drop_succ_cons, List.take_succ_cons, List.take_zero, setL])))
              | (show Oper.wp _ _ _ _ _ _; (first | (show Oper.wp _ ⟨_, .alloc _, _, _, _, _⟩ _ _ _ _; refine wp_alloc S rfl ?_; clear S; intro b w1 S; (try simp only [Value.cells, List.toList_toArray] at S)) | (show Oper.wp _ ⟨_, .load _ _, _, _, _, _⟩ _ _ _ _; refine wp_load1 S rfl (by with_reducible (repeat (first | exact Has.head | refine Has.tail ?_))) rfl ?_) | (show Oper.wp _ ⟨_, .load _ _, _, _, _, _⟩ _ _ _ _; refine wp_loadN S rfl (by with_reducible (repeat (first | exact Has.head | refine Has.tail ?_))) rfl rfl ?_) | (show Oper.wp _ ⟨_, .store _ _ _, _, _, _, _⟩ _ _ _ _; refine wp_store S rfl rfl rfl (by with_reducible (repeat (first | exact Upd.head | apply Upd.tail))) (by first | exact .inl (Nat.le_refl _) | exact .inr (Nat.le_refl _)) rfl rfl rfl rfl ?_; clear S; intro w1 S; simp only [List.set_cons_zero, List.set_cons_succ, setL, Act.eval, Array.getD_eq_getD_getElem?, List.getElem?_toArray, List.getElem?_cons_succ, List.getElem?_cons_zero, Option.getD_some] at S) | (show Oper.wp _ ⟨_, .binOp .eql _ _ _ _, _, _, _, _⟩ _ _ _ _; refine wp_eqAgg rfl rfl rfl rfl ?_; simp only [eqCells, eqVal, Bool.and_true]) | (show Oper.wp _ ⟨_, .binOp .neq _ _ _ _, _, _, _, _⟩ _ _ _ _; refine wp_neAgg rfl rfl rfl rfl ?_; simp only [eqCells, eqVal, Bool.and_true])) <;> simp only [Act.put, List.setIfInBounds_toArray, List.set_cons_zero, List.set_cons_succ, List.drop_zero, List.drop_succ_cons, List.take_succ_cons, List.take_zero, setL])
              | go_step)
            refine wp_region_D (fun w' => St Nil w w' _) mixed (by kernel_rfl) S.drew ?_
            clear S
            repeat' (first
              | (apply HD_op rfl rfl
                 case' h =>
                   intro wz S K hK
                   repeat' (first
                     | (go_at_K; exact hK _ S)
                     | go_big_hide
                     | go_big_move
                     | go_big_cond
                     | go_big_open
                     | (show Oper.wp _ ⟨_, .indexAddr 72 _ _, _, _, _, _⟩ _ _ _ _; refine wp_indexAddr (i := 4 * (a % 6) + (j : Int)) (q := n) rfl rfl (by omega) (by omega) (by rw [Hnn.out]; simp) ?_; simp only [Act.put, List.setIfInBounds_toArray, List.set_cons_zero, List.set_cons_succ])
                     | (show Oper.wp _ ⟨_, .indexAddr 31 _ _, _, _, _, _⟩ _ _ _ _; refine wp_indexAddr (i := 4 * (a % 6) + (j : Int)) (q := n) rfl rfl (by omega) (by omega) (by rw [Hnn.out]; simp) ?_; simp only [Act.put, List.setIfInBounds_toArray, List.set_cons_zero, List.set_cons_succ])
                     | (show Oper.wp _ ⟨_, .load _ _, _, _, _, _⟩ _ _ _ _; refine wp_load1 S rfl (by with_reducible (repeat (first | exact Has.head | refine Has.tail ?_))) Ht1.out ?_; simp only [Act.put, List.setIfInBounds_toArray, List.set_cons_zero, List.set_cons_succ])
                     | (show Oper.wp _ ⟨_, .load _ _, _, _, _, _⟩ _ _ _ _; refine wp_load1 S rfl (by with_reducible (repeat (first | exact Has.head | refine Has.tail ?_))) Hm1.out ?_; simp only [Act.put, List.setIfInBounds_toArray, List.set_cons_zero, List.set_cons_succ])
                     | (show Oper.wp _ _ _ _ _ _; (first | (show Oper.wp _ ⟨_, .alloc _, _, _, _, _⟩ _ _ _ _; refine wp_alloc S rfl ?_; clear S; intro b w1 S; (try simp only [Value.cells, List.toList_toArray] at S)) | (show Oper.wp _ ⟨_, .load _ _, _, _, _, _⟩ _ _ _ _; refine wp_load1 S rfl (by with_reducible (repeat (first | exact Has.head | refine Has.tail ?_))) rfl ?_) | (show Oper.wp _ ⟨_, .load _ _, _, _, _, _⟩ _ _ _ _; refine wp_loadN S rfl (by with_reducible (repeat (first | exact Has.head | refine Has.tail ?_))) rfl rfl ?_) | (show Oper.wp _ ⟨_, .store _ _ _, _, _, _, _⟩ _ _ _ _; refine wp_store S rfl rfl rfl (by with_reducible (repeat (first | exact Upd.head | apply Upd.tail))) (by first | exact .inl (Nat.le_refl _) | exact .inr (Nat.le_refl _)) rfl rfl rfl rfl ?_; clear S; intro w1 S; simp only [List.set_cons_zero, List.set_cons_succ, setL, Act.eval, Array.getD_eq_getD_getElem?, List.getElem?_toArray, List.getElem?_cons_succ, List.getElem?_cons_zero, Option.getD_some] at S) | (show Oper.wp _ ⟨_, .binOp .eql _ _ _ _, _, _, _, _⟩ _ _ _ _; refine wp_eqAgg rfl rfl rfl rfl ?_; simp only [eqCells, eqVal, Bool.and_true]) | (show Oper.wp _ ⟨_, .binOp .neq _ _ _ _, _, _, _, _⟩ _ _ _ _; refine wp_neAgg rfl rfl rfl rfl ?_; simp only [eqCells, eqVal, Bool.and_true])))
                     | go_step)
                 simp only [Act.put, List.setIfInBounds_toArray, List.set_cons_zero, List.set_cons_succ, List.drop_zero, List.drop_succ_cons, List.take_succ_cons, List.take_zero, setL])
              | (refine HD_skip rfl ?_; simp only [Act.put, List.setIfInBounds_toArray, List.set_cons_zero, List.set_cons_succ, List.drop_zero, List.drop_succ_cons, List.take_succ_cons, List.take_zero, setL])
              | (refine HD_by rfl rfl ?_ ?_ <;> (intro hc; simp only [hc, Bool.not_true, Bool.not_false]))
              | (refine HD_nil ?_; intro w1 S))
            repeat' (first
              | go_big_hide
              | go_big_move
              | go_big_cond
              | go_big_open
              | (show Oper.wp _ ⟨_, .indexAddr 72 _ _, _, _, _, _⟩ _ _ _ _; refine wp_indexAddr (i := 4 * (a % 6) + (j : Int)) (q := n) rfl rfl (by omega) (by omega) (by rw [Hnn.out]; simp) ?_; simp only [Act.put, List.setIfInBounds_toArray, List.set_cons_zero, List.set_cons_succ])
              | (show Oper.wp _ ⟨_, .indexAddr 31 _ _, _, _, _, _⟩ _ _ _ _; refine wp_indexAddr (i := 4 * (a % 6) + (j : Int)) (q := n) rfl rfl (by omega) (by omega) (by rw [Hnn.out]; simp) ?_; simp only [Act.put, List.setIfInBounds_toArray, List.set_cons_zero, List.set_cons_succ])
              | (show Oper.wp _ ⟨_, .store _ _ _, _, _, _, _⟩ _ _ _ _; refine wp_store S rfl rfl rfl (Upd.tail (Upd.tail (Upd.tail (Upd.tail (Upd.tail (Upd.head)))))) (.inl (Nat.le_refl _)) rfl (set_map Value.bool tq n _) Hle1.out rfl ?_; clear S; intro w1 S; simp only [Act.put, List.setIfInBounds_toArray, List.set_cons_zero, List.set_cons_succ])
              | (show Oper.wp _ ⟨_, .store _ _ _, _, _, _, _⟩ _ _ _ _; refine wp_store S rfl rfl rfl (Upd.tail (Upd.tail (Upd.tail (Upd.tail (Upd.head))))) (.inl (Nat.le_refl _)) rfl (set_map (Value.int .u32) mq n _) Hle2.out rfl ?_; clear S; intro w1 S; simp only [Act.put, List.setIfInBounds_toArray, List.set_cons_zero, List.set_cons_succ])
              | (show wpList _ _ _ (⟨_, _, _, _, _, some _⟩ :: _) _ _; first | (refine wpList_g rfl ?_ ?_ <;> (intro hc; (try simp only [Bool.not_true, Bool.not_false, reduceCtorEq] at hc); (try (change True at hc; clear hc)); (try simp only [hc, Bool.not_true, Bool.not_false]); (try simp only [Act.put, List.setIfInBounds_toArray, List.set_cons_zero, List.set_cons_succ, List.drop_zero, List.drop_succ_cons, List.take_succ_cons, List.take_zero, setL]))) | (refine wpList_g0 rfl ?_; (try simp only [Act.put, List.setIfInBounds_toArray, List.set_cons_zero, List.set_cons_succ, List.drop_zero, List.drop_succ_cons, List.take_succ_cons, List.take_zero, setL])))
              | (show Oper.wp _ _ _ _ _ _; (first | (show Oper.wp _ ⟨_, .alloc _, _, _, _, _⟩ _ _ _ _; refine wp_alloc S rfl ?_; clear S; intro b w1 S; (try simp only [Value.cells, List.toList_toArray] at S)) | (show Oper.wp _ ⟨_, .load _ _, _, _, _, _⟩ _ _ _ _; refine wp_load1 S rfl (by with_reducible (repeat (first | exact Has.head | refine Has.tail ?_))) rfl ?_) | (show Oper.wp _ ⟨_, .load _ _, _, _, _, _⟩ _ _ _ _; refine wp_loadN S rfl (by with_reducible (repeat (first | exact Has.head | refine Has.tail ?_))) rfl rfl ?_) | (show Oper.wp _ ⟨_, .store _ _ _, _, _, _, _⟩ _ _ _ _; refine wp_store S rfl rfl rfl (by with_reducible (repeat (first | exact Upd.head | apply Upd.tail))) (by first | exact .inl (Nat.le_refl _) | exact .inr (Nat.le_refl _)) rfl rfl rfl rfl ?_; clear S; intro w1 S; simp only [List.set_cons_zero, List.set_cons_succ, setL, Act.eval, Array.getD_eq_getD_getElem?, List.getElem?_toArray, List.getElem?_cons_succ, List.getElem?_cons_zero, Option.getD_some] at S) | (show Oper.wp _ ⟨_, .binOp .eql _ _ _ _, _, _, _, _⟩ _ _ _ _; refine wp_eqAgg rfl rfl rfl rfl ?_; simp only [eqCells, eqVal, Bool.and_true]) | (show Oper.wp _ ⟨_, .binOp .neq _ _ _ _, _, _, _, _⟩ _ _ _ _; refine wp_neAgg rfl rfl rfl rfl ?_; simp only [eqCells, eqVal, Bool.and_true])) <;> simp only [Act.put, List.setIfInBounds_toArray, List.set_cons_zero, List.set_cons_succ, List.drop_zero, List.drop_succ_cons, List.take_succ_cons, List.take_zero, setL])
              | go_step)
            go_roundw
            case rel => exact ⟨q + 1, by omega, by go_num, by rw [Hth1.out, Hmd1.out]; exact S.sub (List.Sublist.cons _ (List.Sublist.refl _))⟩
            case measure => simp [intOf]; omega
        · obtain rfl : t = true := ht2 rfl
          clear ht2 ht3
          repeat' (first
            | go_big_hide
            | go_big_move
            | go_big_cond
            | go_big_open
            | (show Oper.wp _ ⟨_, .indexAddr 76 _ _, _, _, _, _⟩ _ _ _ _; refine wp_indexAddr (i := (q : Int)) (q := q * 23) rfl rfl (by omega) (by omega) (by simp) ?_; simp only [Act.put, List.setIfInBounds_toArray, List.set_cons_zero, List.set_cons_succ])
            | (show Oper.wp _ ⟨_, .load _ _, _, _, _, _⟩ _ _ _ _; refine wp_loadNO S rfl Has.head Hcut.out rfl ?_; simp only [Act.put, List.setIfInBounds_toArray, List.set_cons_zero, List.set_cons_succ])
            | (show wpList _ _ _ (⟨_, _, _, _, _, some _⟩ :: _) _ _; first | (refine wpList_g rfl ?_ ?_ <;> (intro hc; (try simp only [Bool.not_true, Bool.not_false, reduceCtorEq] at hc); (try (change True at hc; clear hc)); (try simp only [hc, Bool.not_true, Bool.not_false]); (try simp only [Act.put, List.setIfInBounds_toArray, List.set_cons_zero, List.set_cons_succ, List.drop_zero, List.drop_succ_cons, List.take_succ_cons, List.take_zero, setL]))) | (refine wpList_g0 rfl ?_; (try simp only [Act.put, List.setIfInBounds_toArray, List.set_cons_zero, List.set_cons_succ, List.drop_zero, List.drop_succ_cons, List.take_succ_cons, List.take_zero, setL])))
            | (show Oper.wp _ _ _ _ _ _; (first | (show Oper.wp _ ⟨_, .alloc _, _, _, _, _⟩ _ _ _ _; refine wp_alloc S rfl ?_; clear S; intro b w1 S; (try simp only [Value.cells, List.toList_toArray] at S)) | (show Oper.wp _ ⟨_, .load _ _, _, _, _, _⟩ _ _ _ _; refine wp_load1 S rfl (by with_reducible (repeat (first | exact Has.head | refine Has.tail ?_))) rfl ?_) | (show Oper.wp _ ⟨_, .load _ _, _, _, _, _⟩ _ _ _ _; refine wp_loadN S rfl (by with_reducible (repeat (first | exact Has.head | refine Has.tail ?_))) rfl rfl ?_) | (show Oper.wp _ ⟨_, .store _ _ _, _, _, _, _⟩ _ _ _ _; refine wp_store S rfl rfl rfl (by with_reducible (repeat (first | exact Upd.head | apply Upd.tail))) (by first | exact .inl (Nat.le_refl _) | exact .inr (Nat.le_refl _)) rfl rfl rfl rfl ?_; clear S; intro w1 S; simp only [List.set_cons_zero, List.set_cons_succ, setL, Act.eval, Array.getD_eq_getD_getElem?, List.getElem?_toArray, List.getElem?_cons_succ, List.getElem?_cons_zero, Option.getD_some] at S) | (show Oper.wp _ ⟨_, .binOp .eql _ _ _ _, _, _, _, _⟩ _ _ _ _; refine wp_eqAgg rfl rfl rfl rfl ?_; simp only [eqCells, eqVal, Bool.and_true]) | (show Oper.wp _ ⟨_, .binOp .neq _ _ _ _, _, _, _, _⟩ _ _ _ _; refine wp_neAgg rfl rfl rfl rfl ?_; simp only [eqCells, eqVal, Bool.and_true])) <;> simp only [Act.put, List.setIfInBounds_toArray, List.set_cons_zero, List.set_cons_succ, List.drop_zero, List.drop_succ_cons, List.take_succ_cons, List.take_zero, setL])
            | go_step)
          refine wp_region_D (fun w' => St Nil w w' _) mixed (by kernel_rfl) S.drew ?_
          clear S
          repeat' (first
            | (apply HD_op rfl rfl
               case' h =>
                 intro wz S K hK
                 repeat' (first
                   | (go_at_K; exact hK _ S)
                   | go_big_hide
                   | go_big_move
                   | go_big_cond
                   | go_big_open
                   | (show Oper.wp _ ⟨_, .indexAddr 69 _ _, _, _, _, _⟩ _ _ _ _; refine wp_indexAddr (i := (k : Int)) (q := o3 + k * 3) rfl rfl (by omega) (by omega) (by simp) ?_; simp only [Act.put, List.setIfInBounds_toArray, List.set_cons_zero, List.set_cons_succ])
                   | (show Oper.wp _ ⟨_, .load _ _, _, _, _, _⟩ _ _ _ _; refine wp_load1_at (off := o3 + k * 3) rfl (HC.out _ (S.mod.block bs hbs0 (fun h => h)) 0 _ rfl) ?_; simp only [Act.put, List.setIfInBounds_toArray, List.set_cons_zero, List.set_cons_succ])
                   | (show Oper.wp _ ⟨_, .binOp .neq _ _ _ _, _, _, _, _⟩ _ _ _ _; refine wp_neAgg (xs := Pfx.cells ⟨1 + a % 6 / 3, 0, adr a, 8⟩) (ys := Pfx.cells ⟨1 + a % 6 / 3, 0, adr a, 8⟩) rfl rfl rfl rfl ?_; rw [eqP', eqPB_self]; simp only [Bool.not_true, Act.put, List.setIfInBounds_toArray, List.set_cons_zero, List.set_cons_succ])
                   | (show Oper.wp _ ⟨_, .indexAddr 76 _ _, _, _, _, _⟩ _ _ _ _; refine wp_indexAddr (i := (q : Int) - 1) (q := (q - 1) * 23) rfl rfl (by omega) (by omega) (by rw [show ((q : Int) - 1).toNat = q - 1 by omega]; simp) ?_; simp only [Act.put, List.setIfInBounds_toArray, List.set_cons_zero, List.set_cons_succ])
                   | (show Oper.wp _ ⟨_, .load _ _, _, _, _, _⟩ _ _ _ _; refine wp_load1O S rfl (by with_reducible (repeat (first | exact Has.head | refine Has.tail ?_))) Hpc.out ?_; simp only [Act.put, List.setIfInBounds_toArray, List.set_cons_zero, List.set_cons_succ])
                   | (show Oper.wp _ _ _ _ _ _; (first | (show Oper.wp _ ⟨_, .alloc _, _, _, _, _⟩ _ _ _ _; refine wp_alloc S rfl ?_; clear S; intro b w1 S; (try simp only [Value.cells, List.toList_toArray] at S)) | (show Oper.wp _ ⟨_, .load _ _, _, _, _, _⟩ _ _ _ _; refine wp_load1 S rfl (by with_reducible (repeat (first | exact Has.head | refine Has.tail ?_))) rfl ?_) | (show Oper.wp _ ⟨_, .load _ _, _, _, _, _⟩ _ _ _ _; refine wp_loadN S rfl (by with_reducible (repeat (first | exact Has.head | refine Has.tail ?_))) rfl rfl ?_) | (show Oper.wp _ ⟨_, .store _ _ _, _, _, _, _⟩ _ _ _ _; refine wp_store S rfl rfl rfl (by with_reducible (repeat (first | exact Upd.head | apply Upd.tail))) (by first | exact .inl (Nat.le_refl _) | exact .inr (Nat.le_refl _)) rfl rfl rfl rfl ?_; clear S; intro w1 S; simp only [List.set_cons_zero, List.set_cons_succ, setL, Act.eval, Array.getD_eq_getD_getElem?, List.getElem?_toArray, List.getElem?_cons_succ, List.getElem?_cons_zero, Option.getD_some] at S) | (show Oper.wp _ ⟨_, .binOp .eql _ _ _ _, _, _, _, _⟩ _ _ _ _; refine wp_eqAgg rfl rfl rfl rfl ?_; simp only [eqCells, eqVal, Bool.and_true]) | (show Oper.wp _ ⟨_, .binOp .neq _ _ _ _, _, _, _, _⟩ _ _ _ _; refine wp_neAgg rfl rfl rfl rfl ?_; simp only [eqCells, eqVal, Bool.and_true])))
                   | (go_at_call 36; refine (prefix36_any a _ ha0 ha1).mono ?_; rintro e w1 ⟨rfl, hm⟩; replace S := S.step hm; (try dsimp only))
                   | go_step)
               simp only [Act.put, List.setIfInBounds_toArray, List.set_cons_zero, List.set_cons_succ, List.drop_zero, List.drop_succ_cons, List.take_succ_cons, List.take_zero, setL])
            | (refine HD_skip rfl ?_; simp only [Act.put, List.setIfInBounds_toArray, List.set_cons_zero, List.set_cons_succ, List.drop_zero, List.drop_succ_cons, List.take_succ_cons, List.take_zero, setL])
            | (refine HD_by rfl rfl ?_ ?_ <;> (intro hc; simp only [hc, Bool.not_true, Bool.not_false]))
            | (refine HD_nil ?_; intro w1 S))
          repeat' (first
            | go_big_hide
            | go_big_move
            | go_big_cond
            | go_big_open
            | (show wpList _ _ _ (⟨_, _, _, _, _, some _⟩ :: _) _ _; first | (refine wpList_g rfl ?_ ?_ <;> (intro hc; (try simp only [Bool.not_true, Bool.not_false, reduceCtorEq] at hc); (try (change True at hc; clear hc)); (try simp only [hc, Bool.not_true, Bool.not_false]); (try simp only [Act.put, List.setIfInBounds_toArray, List.set_cons_zero, List.set_cons_succ, List.drop_zero, List.drop_succ_cons, List.take_succ_cons, List.take_zero, setL]))) | (refine wpList_g0 rfl ?_; (try simp only [Act.put, List.setIfInBounds_toArray, List.set_cons_zero, List.set_cons_succ, List.drop_zero, List.drop_succ_cons, List.take_succ_cons, List.take_zero, setL])))
            | (show Oper.wp _ _ _ _ _ _; (first | (show Oper.wp _ ⟨_, .alloc _, _, _, _, _⟩ _ _ _ _; refine wp_alloc S rfl ?_; clear S; intro b w1 S; (try simp only [Value.cells, List.toList_toArray] at S)) | (show Oper.wp _ ⟨_, .load _ _, _, _, _, _⟩ _ _ _ _; refine wp_load1 S rfl (by with_reducible (repeat (first | exact Has.head | refine Has.tail ?_))) rfl ?_) | (show Oper.wp _ ⟨_, .load _ _, _, _, _, _⟩ _ _ _ _; refine wp_loadN S rfl (by with_reducible (repeat (first | exact Has.head | refine Has.tail ?_))) rfl rfl ?_) | (show Oper.wp _ ⟨_, .store _ _ _, _, _, _, _⟩ _ _ _ _; refine wp_store S rfl rfl rfl (by with_reducible (repeat (first | exact Upd.head | apply Upd.tail))) (by first | exact .inl (Nat.le_refl _) | exact .inr (Nat.le_refl _)) rfl rfl rfl rfl ?_; clear S; intro w1 S; simp only [List.set_cons_zero, List.set_cons_succ, setL, Act.eval, Array.getD_eq_getD_getElem?, List.getElem?_toArray, List.getElem?_cons_succ, List.getElem?_cons_zero, Option.getD_some] at S) | (show Oper.wp _ ⟨_, .binOp .eql _ _ _ _, _, _, _, _⟩ _ _ _ _; refine wp_eqAgg rfl rfl rfl rfl ?_; simp only [eqCells, eqVal, Bool.and_true]) | (show Oper.wp _ ⟨_, .binOp .neq _ _ _ _, _, _, _, _⟩ _ _ _ _; refine wp_neAgg rfl rfl rfl rfl ?_; simp only [eqCells, eqVal, Bool.and_true])) <;> simp only [Act.put, List.setIfInBounds_toArray, List.set_cons_zero, List.set_cons_succ, List.drop_zero, List.drop_succ_cons, List.take_succ_cons, List.take_zero, setL])
            | go_step)
          refine wp_region_D (fun w' => St Nil w w' _) mixed (by kernel_rfl) S.drew ?_
          clear S
          repeat' (first
            | (apply HD_op rfl rfl
               case' h =>
                 intro wz S K hK
                 repeat' (first
                   | (go_at_K; exact hK _ S)
                   | go_big_hide
                   | go_big_move
                   | go_big_cond
                   | go_big_open
                   | (show Oper.wp _ ⟨_, .indexAddr 72 _ _, _, _, _, _⟩ _ _ _ _; refine wp_indexAddr (i := 4 * (a % 6) + (j : Int)) (q := n) rfl rfl (by omega) (by omega) (by rw [Hnn.out]; simp) ?_; simp only [Act.put, List.setIfInBounds_toArray, List.set_cons_zero, List.set_cons_succ])
                   | (show Oper.wp _ ⟨_, .indexAddr 31 _ _, _, _, _, _⟩ _ _ _ _; refine wp_indexAddr (i := 4 * (a % 6) + (j : Int)) (q := n) rfl rfl (by omega) (by omega) (by rw [Hnn.out]; simp) ?_; simp only [Act.put, List.setIfInBounds_toArray, List.set_cons_zero, List.set_cons_succ])
                   | (show Oper.wp _ ⟨_, .load _ _, _, _, _, _⟩ _ _ _ _; refine wp_load1 S rfl (by with_reducible (repeat (first | exact Has.head | refine Has.tail ?_))) Ht1.out ?_; simp only [Act.put, List.setIfInBounds_toArray, List.set_cons_zero, List.set_cons_succ])
                   | (show Oper.wp _ _ _ _ _ _; (first | (show Oper.wp _ ⟨_, .alloc _, _, _, _, _⟩ _ _ _ _; refine wp_alloc S rfl ?_; clear S; intro b w1 S; (try simp only [Value.cells, List.toList_toArray] at S)) | (show Oper.wp _ ⟨_, .load _ _, _, _, _, _⟩ _ _ _ _; refine wp_load1 S rfl (by with_reducible (repeat (first | exact Has.head | refine Has.tail ?_))) rfl ?_) | (show Oper.wp _ ⟨_, .load _ _, _, _, _, _⟩ _ _ _ _; refine wp_loadN S rfl (by with_reducible (repeat (first | exact Has.head | refine Has.tail ?_))) rfl rfl ?_) | (show Oper.wp _ ⟨_, .store _ _ _, _, _, _, _⟩ _ _ _ _; refine wp_store S rfl rfl rfl (by with_reducible (repeat (first | exact Upd.head | apply Upd.tail))) (by first | exact .inl (Nat.le_refl _) | exact .inr (Nat.le_refl _)) rfl rfl rfl rfl ?_; clear S; intro w1 S; simp only [List.set_cons_zero, List.set_cons_succ, setL, Act.eval, Array.getD_eq_getD_getElem?, List.getElem?_toArray, List.getElem?_cons_succ, List.getElem?_cons_zero, Option.getD_some] at S) | (show Oper.wp _ ⟨_, .binOp .eql _ _ _ _, _, _, _, _⟩ _ _ _ _; refine wp_eqAgg rfl rfl rfl rfl ?_; simp only [eqCells, eqVal, Bool.and_true]) | (show Oper.wp _ ⟨_, .binOp .neq _ _ _ _, _, _, _, _⟩ _ _ _ _; refine wp_neAgg rfl rfl rfl rfl ?_; simp only [eqCells, eqVal, Bool.and_true])))
                   | go_step)
               simp only [Act.put, List.setIfInBounds_toArray, List.set_cons_zero, List.set_cons_succ, List.drop_zero, List.drop_succ_cons, List.take_succ_cons, List.take_zero, setL])
            | (refine HD_skip rfl ?_; simp only [Act.put, List.setIfInBounds_toArray, List.set_cons_zero, List.set_cons_succ, List.drop_zero, List.drop_succ_cons, List.take_succ_cons, List.take_zero, setL])
            | (refine HD_by rfl rfl ?_ ?_ <;> (intro hc; simp only [hc, Bool.not_true, Bool.not_false]))
            | (refine HD_nil ?_; intro w1 S))
          repeat' (first
            | go_big_hide
            | go_big_move
            | go_big_cond
            | go_big_open
            | (show Oper.wp _ ⟨_, .indexAddr 72 _ _, _, _, _, _⟩ _ _ _ _; refine wp_indexAddr (i := 4 * (a % 6) + (j : Int)) (q := n) rfl rfl (by omega) (by omega) (by rw [Hnn.out]; simp) ?_; simp only [Act.put, List.setIfInBounds_toArray, List.set_cons_zero, List.set_cons_succ])
            | (show Oper.wp _ ⟨_, .indexAddr 31 _ _, _, _, _, _⟩ _ _ _ _; refine wp_indexAddr (i := 4 * (a % 6) + (j : Int)) (q := n) rfl rfl (by omega) (by omega) (by rw [Hnn.out]; simp) ?_; simp only [Act.put, List.setIfInBounds_toArray, List.set_cons_zero, List.set_cons_succ])
            | (show Oper.wp _ ⟨_, .store _ _ _, _, _, _, _⟩ _ _ _ _; refine wp_store S rfl rfl rfl (Upd.tail (Upd.tail (Upd.tail (Upd.tail (Upd.tail (Upd.head)))))) (.inl (Nat.le_refl _)) rfl (set_map Value.bool tq n _) Hle1.out rfl ?_; clear S; intro w1 S; simp only [Act.put, List.setIfInBounds_toArray, List.set_cons_zero, List.set_cons_succ])
            | (show Oper.wp _ ⟨_, .store _ _ _, _, _, _, _⟩ _ _ _ _; refine wp_store S rfl rfl rfl (Upd.tail (Upd.tail (Upd.tail (Upd.tail (Upd.head))))) (.inl (Nat.le_refl _)) rfl (set_map (Value.int .u32) mq n _) Hle2.out rfl ?_; clear S; intro w1 S; simp only [Act.put, List.setIfInBounds_toArray, List.set_cons_zero, List.set_cons_succ])
            | (show wpList _ _ _ (⟨_, _, _, _, _, some _⟩ :: _) _ _; first | (refine wpList_g rfl ?_ ?_ <;> (intro hc; (try simp only [Bool.not_true, Bool.not_false, reduceCtorEq] at hc); (try (change True at hc; clear hc)); (try simp only [hc, Bool.not_true, Bool.not_false]); (try simp only [Act.put, List.setIfInBounds_toArray, List.set_cons_zero, List.set_cons_succ, List.drop_zero, List.drop_succ_cons, List.take_succ_cons, List.take_zero, setL]))) | (refine wpList_g0 rfl ?_; (try simp only [Act.put, List.setIfInBounds_toArray, List.set_cons_zero, List.set_cons_succ, List.drop_zero, List.drop_succ_cons, List.take_succ_cons, List.take_zero, setL])))
            | (show Oper.wp _ _ _ _ _ _; (first | (show Oper.wp _ ⟨_, .alloc _, _, _, _, _⟩ _ _ _ _; refine wp_alloc S rfl ?_; clear S; intro b w1 S; (try simp only [Value.cells, List.toList_toArray] at S)) | (show Oper.wp _ ⟨_, .load _ _, _, _, _, _⟩ _ _ _ _; refine wp_load1 S rfl (by with_reducible (repeat (first | exact Has.head | refine Has.tail ?_))) rfl ?_) | (show Oper.wp _ ⟨_, .load _ _, _, _, _, _⟩ _ _ _ _; refine wp_loadN S rfl (by with_reducible (repeat (first | exact Has.head | refine Has.tail ?_))) rfl rfl ?_) | (show Oper.wp _ ⟨_, .store _ _ _, _, _, _, _⟩ _ _ _ _; refine wp_store S rfl rfl rfl (by with_reducible (repeat (first | exact Upd.head | apply Upd.tail))) (by first | exact .inl (Nat.le_refl _) | exact .inr (Nat.le_refl _)) rfl rfl rfl rfl ?_; clear S; intro w1 S; simp only [List.set_cons_zero, List.set_cons_succ, setL, Act.eval, Array.getD_eq_getD_getElem?, List.getElem?_toArray, List.getElem?_cons_succ, List.getElem?_cons_zero, Option.getD_some] at S) | (show Oper.wp _ ⟨_, .binOp .eql _ _ _ _, _, _, _, _⟩ _ _ _ _; refine wp_eqAgg rfl rfl rfl rfl ?_; simp only [eqCells, eqVal, Bool.and_true]) | (show Oper.wp _ ⟨_, .binOp .neq _ _ _ _, _, _, _, _⟩ _ _ _ _; refine wp_neAgg rfl rfl rfl rfl ?_; simp only [eqCells, eqVal, Bool.and_true])) <;> simp only [Act.put, List.setIfInBounds_toArray, List.set_cons_zero, List.set_cons_succ, List.drop_zero, List.drop_succ_cons, List.take_succ_cons, List.take_zero, setL])
            | go_step)
          go_roundw
          case rel => exact ⟨q + 1, by omega, by go_num, by rw [Hth1.out, Hmd1.out]; exact S.sub (List.Sublist.cons _ (List.Sublist.refl _))⟩
          case measure => simp [intOf]; omega
      · clear hprev
        obtain rfl : q = 0 := by omega
        cases g
        · cases t
          · clear ht2 ht3
            repeat' (first
              | go_big_hide
              | go_big_move
              | go_big_cond
              | go_big_open
              | (show Oper.wp _ ⟨_, .indexAddr 76 _ _, _, _, _, _⟩ _ _ _ _; refine wp_indexAddr (i := (q : Int)) (q := q * 23) rfl rfl (by omega) (by omega) (by simp) ?_; simp only [Act.put, List.setIfInBounds_toArray, List.set_cons_zero, List.set_cons_succ])
              | (show Oper.wp _ ⟨_, .load _ _, _, _, _, _⟩ _ _ _ _; refine wp_loadNO S rfl Has.head Hcut.out rfl ?_; simp only [Act.put, List.setIfInBounds_toArray, List.set_cons_zero, List.set_cons_succ])
              | (show wpList _ _ _ (⟨_, _, _, _, _, some _⟩ :: _) _ _; first | (refine wpList_g rfl ?_ ?_ <;> (intro hc; (try simp only [Bool.not_true, Bool.not_false, reduceCtorEq] at hc); (try (change True at hc; clear hc)); (try simp only [hc, Bool.not_true, Bool.not_false]); (try simp only [Act.put, List.setIfInBounds_toArray, List.set_cons_zero, List.set_cons_succ, List.drop_zero, List.drop_succ_cons, List.take_succ_cons, List.take_zero, setL]))) | (refine wpList_g0 rfl ?_; (try simp only [Act.put, List.setIfInBounds_toArray, List.set_cons_zero, List.set_cons_succ, List.drop_zero, List.drop_succ_cons, List.take_succ_cons, List.take_zero, setL])))
              | (show Oper.wp _ _ _ _ _ _; (first | (show Oper.wp _ ⟨_, .alloc _, _, _, _, _⟩ _ _ _ _; refine wp_alloc S rfl ?_; clear S; intro b w1 S; (try simp only [Value.cells, List.toList_toArray] at S)) | (show Oper.wp _ ⟨_, .load _ _, _, _, _, _⟩ _ _ _ _; refine wp_load1 S rfl (by with_reducible (repeat (first | exact Has.head | refine Has.tail ?_))) rfl ?_) | (show Oper.wp _ ⟨_, .load _ _, _, _, _, _⟩ _ _ _ _; refine wp_loadN S rfl (by with_reducible (repeat (first | exact Has.head | refine Has.tail ?_))) rfl rfl ?_) | (show Oper.wp _ ⟨_, .store _ _ _, _, _, _, _⟩ _ _ _ _; refine wp_store S rfl rfl rfl (by with_reducible (repeat (first | exact Upd.head | apply Upd.tail))) (by first | exact .inl (Nat.le_refl _) | exact .inr (Nat.le_refl _)) rfl rfl rfl rfl ?_; clear S; intro w1 S; simp only [List.set_cons_zero, List.set_cons_succ, setL, Act.eval, Array.getD_eq_getD_getElem?, List.getElem?_toArray, List.getElem?_cons_succ, List.getElem?_cons_zero, Option.getD_some] at S) | (show Oper.wp _ ⟨_, .binOp .eql _ _ _ _, _, _, _, _⟩ _ _ _ _; refine wp_eqAgg rfl rfl rfl rfl ?_; simp only [eqCells, eqVal, Bool.and_true]) | (show Oper.wp _ ⟨_, .binOp .neq _ _ _ _, _, _, _, _⟩ _ _ _ _; refine wp_neAgg rfl rfl rfl rfl ?_; simp only [eqCells, eqVal, Bool.and_true])) <;> simp only [Act.put, List.setIfInBounds_toArray, List.set_cons_zero, List.set_cons_succ, List.drop_zero, List.drop_succ_cons, List.take_succ_cons, List.take_zero, setL])
              | go_step)
            refine wp_region_D (fun w' => St Nil w w' _) mixed (by kernel_rfl) S.drew ?_
            clear S
            repeat' (first
              | (apply HD_op rfl rfl
                 case' h =>
                   intro wz S K hK
                   repeat' (first
                     | (go_at_K; exact hK _ S)
                     | go_big_hide
                     | go_big_move
                     | go_big_cond
                     | go_big_open
                     | (show Oper.wp _ ⟨_, .indexAddr 69 _ _, _, _, _, _⟩ _ _ _ _; refine wp_indexAddr (i := (k : Int)) (q := o3 + k * 3) rfl rfl (by omega) (by omega) (by simp) ?_; simp only [Act.put, List.setIfInBounds_toArray, List.set_cons_zero, List.set_cons_succ])
                     | (show Oper.wp _ ⟨_, .load _ _, _, _, _, _⟩ _ _ _ _; refine wp_load1_at (off := o3 + k * 3) rfl (HC.out _ (S.mod.block bs hbs0 (fun h => h)) 0 _ rfl) ?_; simp only [Act.put, List.setIfInBounds_toArray, List.set_cons_zero, List.set_cons_succ])
                     | (show Oper.wp _ ⟨_, .binOp .neq _ _ _ _, _, _, _, _⟩ _ _ _ _; refine wp_neAgg (xs := Pfx.cells ⟨1 + a % 6 / 3, 0, adr a, 8⟩) (ys := Pfx.cells ⟨1 + a % 6 / 3, 0, adr a, 8⟩) rfl rfl rfl rfl ?_; rw [eqP', eqPB_self]; simp only [Bool.not_true, Act.put, List.setIfInBounds_toArray, List.set_cons_zero, List.set_cons_succ])
                     | (show Oper.wp _ _ _ _ _ _; (first | (show Oper.wp _ ⟨_, .alloc _, _, _, _, _⟩ _ _ _ _; refine wp_alloc S rfl ?_; clear S; intro b w1 S; (try simp only [Value.cells, List.toList_toArray] at S)) | (show Oper.wp _ ⟨_, .load _ _, _, _, _, _⟩ _ _ _ _; refine wp_load1 S rfl (by with_reducible (repeat (first | exact Has.head | refine Has.tail ?_))) rfl ?_) | (show Oper.wp _ ⟨_, .load _ _, _, _, _, _⟩ _ _ _ _; refine wp_loadN S rfl (by with_reducible (repeat (first | exact Has.head | refine Has.tail ?_))) rfl rfl ?_) | (show Oper.wp _ ⟨_, .store _ _ _, _, _, _, _⟩ _ _ _ _; refine wp_store S rfl rfl rfl (by with_reducible (repeat (first | exact Upd.head | apply Upd.tail))) (by first | exact .inl (Nat.le_refl _) | exact .inr (Nat.le_refl _)) rfl rfl rfl rfl ?_; clear S; intro w1 S; simp only [List.set_cons_zero, List.set_cons_succ, setL, Act.eval, Array.getD_eq_getD_getElem?, List.getElem?_toArray, List.getElem?_cons_succ, List.getElem?_cons_zero, Option.getD_some] at S) | (show Oper.wp _ ⟨_, .binOp .eql _ _ _ _, _, _, _, _⟩ _ _ _ _; refine wp_eqAgg rfl rfl rfl rfl ?_; simp only [eqCells, eqVal, Bool.and_true]) | (show Oper.wp _ ⟨_, .binOp .neq _ _ _ _, _, _, _, _⟩ _ _ _ _; refine wp_neAgg rfl rfl rfl rfl ?_; simp only [eqCells, eqVal, Bool.and_true])))
                     | (go_at_call 36; refine (prefix36_any a _ ha0 ha1).mono ?_; rintro e w1 ⟨rfl, hm⟩; replace S := S.step hm; (try dsimp only))
                     | go_step)
                 simp only [Act.put, List.setIfInBounds_toArray, List.set_cons_zero, List.set_cons_succ, List.drop_zero, List.drop_succ_cons, List.take_succ_cons, List.take_zero, setL])
              | (refine HD_skip rfl ?_; simp only [Act.put, List.setIfInBounds_toArray, List.set_cons_zero, List.set_cons_succ, List.drop_zero, List.drop_succ_cons, List.take_succ_cons, List.take_zero, setL])
              | (refine HD_by rfl rfl ?_ ?_ <;> (intro hc; simp only [hc, Bool.not_true, Bool.not_false]))
              | (refine HD_nil ?_; intro w1 S))
            repeat' (first
              | go_big_hide
              | go_big_move
              | go_big_cond
              | go_big_open
              | (show wpList _ _ _ (⟨_, _, _, _, _, some _⟩ :: _) _ _; first | (refine wpList_g rfl ?_ ?_ <;> (intro hc; (try simp only [Bool.not_true, Bool.not_false, reduceCtorEq] at hc); (try (change True at hc; clear hc)); (try simp only [hc, Bool.not_true, Bool.not_false]); (try simp only [Act.put, List.setIfInBounds_toArray, List.set_cons_zero, List.set_cons_succ, List.drop_zero, List.drop_succ_cons, List.take_succ_cons, List.take_zero, setL]))) | (refine wpList_g0 rfl ?_; (try simp only [Act.put, List.setIfInBounds_toArray, List.set_cons_zero, List.set_cons_succ, List.drop_zero, List.drop_succ_cons, List.take_succ_cons, List.take_zero, setL])))
              | (show Oper.wp _ _ _ _ _ _; (first | (show Oper.wp _ ⟨_, .alloc _, _, _, _, _⟩ _ _ _ _; refine wp_alloc S rfl ?_; clear S; intro b w1 S; (try simp only [Value.cells, List.toList_toArray] at S)) | (show Oper.wp _ ⟨_, .load _ _, _, _, _, _⟩ _ _ _ _; refine wp_load1 S rfl (by with_reducible (repeat (first | exact Has.head | refine Has.tail ?_))) rfl ?_) | (show Oper.wp _ ⟨_, .load _ _, _, _, _, _⟩ _ _ _ _; refine wp_loadN S rfl (by with_reducible (repeat (first | exact Has.head | refine Has.tail ?_))) rfl rfl ?_) | (show Oper.wp _ ⟨_, .store _ _ _, _, _, _, _⟩ _ _ _ _; refine wp_store S rfl rfl rfl (by with_reducible (repeat (first | exact Upd.head | apply Upd.tail))) (by first | exact .inl (Nat.le_refl _) | exact .inr (Nat.le_refl _)) rfl rfl rfl rfl ?_; clear S; intro w1 S; simp only [List.set_cons_zero, List.set_cons_succ, setL, Act.eval, Array.getD_eq_getD_getElem?, List.getElem?_toArray, List.getElem?_cons_succ, List.getElem?_cons_zero, Option.getD_some] at S) | (show Oper.wp _ ⟨_, .binOp .eql _ _ _ _, _, _, _, _⟩ _ _ _ _; refine wp_eqAgg rfl rfl rfl rfl ?_; simp only [eqCells, eqVal, Bool.and_true]) | (show Oper.wp _ ⟨_, .binOp .neq _ _ _ _, _, _, _, _⟩ _ _ _ _; refine wp_neAgg rfl rfl rfl rfl ?_; simp only [eqCells, eqVal, Bool.and_true])) <;> simp only [Act.put, List.setIfInBounds_toArray, List.set_cons_zero, List.set_cons_succ, List.drop_zero, List.drop_succ_cons, List.take_succ_cons, List.take_zero, setL])
              | go_step)
            refine wp_region_D (fun w' => St Nil w w' _) mixed (by kernel_rfl) S.drew ?_
            clear S
            repeat' (first
              | (apply HD_op rfl rfl
                 case' h =>
                   intro wz S K hK
                   repeat' (first
                     | (go_at_K; exact hK _ S)
                     | go_big_hide
                     | go_big_move
                     | go_big_cond
                     | go_big_open
                     | (show Oper.wp _ ⟨_, .indexAddr 72 _ _, _, _, _, _⟩ _ _ _ _; refine wp_indexAddr (i := 4 * (a % 6) + (j : Int)) (q := n) rfl rfl (by omega) (by omega) (by rw [Hnn.out]; simp) ?_; simp only [Act.put, List.setIfInBounds_toArray, List.set_cons_zero, List.set_cons_succ])
                     | (show Oper.wp _ ⟨_, .indexAddr 31 _ _, _, _, _, _⟩ _ _ _ _; refine wp_indexAddr (i := 4 * (a % 6) + (j : Int)) (q := n) rfl rfl (by omega) (by omega) (by rw [Hnn.out]; simp) ?_; simp only [Act.put, List.setIfInBounds_toArray, List.set_cons_zero, List.set_cons_succ])
                     | (show Oper.wp _ ⟨_, .load _ _, _, _, _, _⟩ _ _ _ _; refine wp_load1 S rfl (by with_reducible (repeat (first | exact Has.head | refine Has.tail ?_))) Ht1.out ?_; simp only [Act.put, List.setIfInBounds_toArray, List.set_cons_zero, List.set_cons_succ])
                     | (show Oper.wp _ _ _ _ _ _; (first | (show Oper.wp _ ⟨_, .alloc _, _, _, _, _⟩ _ _ _ _; refine wp_alloc S rfl ?_; clear S; intro b w1 S; (try simp only [Value.cells, List.toList_toArray] at S)) | (show Oper.wp _ ⟨_, .load _ _, _, _, _, _⟩ _ _ _ _; refine wp_load1 S rfl (by with_reducible (repeat (first | exact Has.head | refine Has.tail ?_))) rfl ?_) | (show Oper.wp _ ⟨_, .load _ _, _, _, _, _⟩ _ _ _ _; refine wp_loadN S rfl (by with_reducible (repeat (first | exact Has.head | refine Has.tail ?_))) rfl rfl ?_) | (show Oper.wp _ ⟨_, .store _ _ _, _, _, _, _⟩ _ _ _ _; refine wp_store S rfl rfl rfl (by with_reducible (repeat (first | exact Upd.head | apply Upd.tail))) (by first | exact .inl (Nat.le_refl _) | exact .inr (Nat.le_refl _)) rfl rfl rfl rfl ?_; clear S; intro w1 S; simp only [List.set_cons_zero, List.set_cons_succ, setL, Act.eval, Array.getD_eq_getD_getElem?, List.getElem?_toArray, List.getElem?_cons_succ, List.getElem?_cons_zero, Option.getD_some] at S) | (show Oper.wp _ ⟨_, .binOp .eql _ _ _ _, _, _, _, _⟩ _ _ _ _; refine wp_eqAgg rfl rfl rfl rfl ?_; simp only [eqCells, eqVal, Bool.and_true]) | (show Oper.wp _ ⟨_, .binOp .neq _ _ _ _, _, _, _, _⟩ _ _ _ _; refine wp_neAgg rfl rfl rfl rfl ?_; simp only [eqCells, eqVal, Bool.and_true])))
                     | go_step)
                 simp only [Act.put, List.setIfInBounds_toArray, List.set_cons_zero, List.set_cons_succ, List.drop_zero, List.drop_succ_cons, List.take_succ_cons, List.take_zero, setL])
              | (refine HD_skip rfl ?_; simp only [Act.put, List.setIfInBounds_toArray, List.set_cons_zero, List.set_cons_succ, List.drop_zero, List.drop_succ_cons, List.take_succ_cons, List.take_zero, setL])
              | (refine HD_by rfl rfl ?_ ?_ <;> (intro hc; simp only [hc, Bool.not_true, Bool.not_false]))
              | (refine HD_nil ?_; intro w1 S))
            repeat' (first
              | go_big_hide
              | go_big_move
              | go_big_cond
              | go_big_open
              | (show Oper.wp _ ⟨_, .indexAddr 72 _ _, _, _, _, _⟩ _ _ _ _; refine wp_indexAddr (i := 4 * (a % 6) + (j : Int)) (q := n) rfl rfl (by omega) (by omega) (by rw [Hnn.out]; simp) ?_; simp only [Act.put, List.setIfInBounds_toArray, List.set_cons_zero, List.set_cons_succ])
              | (show Oper.wp _ ⟨_, .indexAddr 31 _ _, _, _, _, _⟩ _ _ _ _; refine wp_indexAddr (i := 4 * (a % 6) + (j : Int)) (q := n) rfl rfl (by omega) (by omega) (by rw [Hnn.out]; simp) ?_; simp only [Act.put, List.setIfInBounds_toArray, List.set_cons_zero, List.set_cons_succ])
              | (show Oper.wp _ ⟨_, .store _ _ _, _, _, _, _⟩ _ _ _ _; refine wp_store S rfl rfl rfl (Upd.tail (Upd.tail (Upd.tail (Upd.tail (Upd.tail (Upd.head)))))) (.inl (Nat.le_refl _)) rfl (set_map Value.bool tq n _) Hle1.out rfl ?_; clear S; intro w1 S; simp only [Act.put, List.setIfInBounds_toArray, List.set_cons_zero, List.set_cons_succ])
              | (show Oper.wp _ ⟨_, .store _ _ _, _, _, _, _⟩ _ _ _ _; refine wp_store S rfl rfl rfl (Upd.tail (Upd.tail (Upd.tail (Upd.tail (Upd.head))))) (.inl (Nat.le_refl _)) rfl (set_map (Value.int .u32) mq n _) Hle2.out rfl ?_; clear S; intro w1 S; simp only [Act.put, List.setIfInBounds_toArray, List.set_cons_zero, List.set_cons_succ])
              | (show wpList _ _ _ (⟨_, _, _, _, _, some _⟩ :: _) _ _; first | (refine wpList_g rfl ?_ ?_ <;> (intro hc; (try simp only [Bool.not_true, Bool.not_false, reduceCtorEq] at hc); (try (change True at hc; clear hc)); (try simp only [hc, Bool.not_true, Bool.not_false]); (try simp only [Act.put, List.setIfInBounds_toArray, List.set_cons_zero, List.set_cons_succ, List.drop_zero, List.drop_succ_cons, List.take_succ_cons, List.take_zero, setL]))) | (refine wpList_g0 rfl ?_; (try simp only [Act.put, List.setIfInBounds_toArray, List.set_cons_zero, List.set_cons_succ, List.drop_zero, List.drop_succ_cons, List.take_succ_cons, List.take_zero, setL])))
              | (show Oper.wp _ _ _ _ _ _; (first | (show Oper.wp _ ⟨_, .alloc _, _, _, _, _⟩ _ _ _ _; refine wp_alloc S rfl ?_; clear S; intro b w1 S; (try simp only [Value.cells, List.toList_toArray] at S)) | (show Oper.wp _ ⟨_, .load _ _, _, _, _, _⟩ _ _ _ _; refine wp_load1 S rfl (by with_reducible (repeat (first | exact Has.head | refine Has.tail ?_))) rfl ?_) | (show Oper.wp _ ⟨_, .load _ _, _, _, _, _⟩ _ _ _ _; refine wp_loadN S rfl (by with_reducible (repeat (first | exact Has.head | refine Has.tail ?_))) rfl rfl ?_) | (show Oper.wp _ ⟨_, .store _ _ _, _, _, _, _⟩ _ _ _ _; refine wp_store S rfl rfl rfl (by with_reducible (repeat (first | exact Upd.head | apply Upd.tail))) (by first | exact .inl (Nat.le_refl _) | exact .inr (Nat.le_refl _)) rfl rfl rfl rfl ?_; clear S; intro w1 S; simp only [List.set_cons_zero, List.set_cons_succ, setL, Act.eval, Array.getD_eq_getD_getElem?, List.getElem?_toArray, List.getElem?_cons_succ, List.getElem?_cons_zero, Option.getD_some] at S) | (show Oper.wp _ ⟨_, .binOp .eql _ _ _ _, _, _, _, _⟩ _ _ _ _; refine wp_eqAgg rfl rfl rfl rfl ?_; simp only [eqCells, eqVal, Bool.and_true]) | (show Oper.wp _ ⟨_, .binOp .neq _ _ _ _, _, _, _, _⟩ _ _ _ _; refine wp_neAgg rfl rfl rfl rfl ?_; simp only [eqCells, eqVal, Bool.and_true])) <;> simp only [Act.put, List.setIfInBounds_toArray, List.set_cons_zero, List.set_cons_succ, List.drop_zero, List.drop_succ_cons, List.take_succ_cons, List.take_zero, setL])
              | go_step)
            go_roundw
            case rel => exact ⟨0 + 1, by omega, by go_num, by rw [Hth1.out, Hmd1.out]; exact S.sub (List.Sublist.cons _ (List.Sublist.refl _))⟩
            case measure => simp [intOf]; omega
          · obtain ⟨m', hm', hne'⟩ := ht3 rfl rfl
            have Hm1 := Lib.hid (map_get (Value.int .u32) hm'); clear hm' ht2 ht3
            have hme : (m' == mm) = false := by rw [beq_eq_false_iff_ne]; exact hne'
            clear hne'
            repeat' (first
              | go_big_hide
              | go_big_move
              | go_big_cond
              | go_big_open
              | (show Oper.wp _ ⟨_, .indexAddr 76 _ _, _, _, _, _⟩ _ _ _ _; refine wp_indexAddr (i := (q : Int)) (q := q * 23) rfl rfl (by omega) (by omega) (by simp) ?_; simp only [Act.put, List.setIfInBounds_toArray, List.set_cons_zero, List.set_cons_succ])
              | (show Oper.wp _ ⟨_, .load _ _, _, _, _, _⟩ _ _ _ _; refine wp_loadNO S rfl Has.head Hcut.out rfl ?_; simp only [Act.put, List.setIfInBounds_toArray, List.set_cons_zero, List.set_cons_succ])
              | (show wpList _ _ _ (⟨_, _, _, _, _, some _⟩ :: _) _ _; first | (refine wpList_g rfl ?_ ?_ <;> (intro hc; (try simp only [Bool.not_true, Bool.not_false, reduceCtorEq] at hc); (try (change True at hc; clear hc)); (try simp only [hc, Bool.not_true, Bool.not_false]); (try simp only [Act.put, List.setIfInBounds_toArray, List.set_cons_zero, List.set_cons_succ, List.drop_zero, List.drop_succ_cons, List.take_succ_cons, List.take_zero, setL]))) | (refine wpList_g0 rfl ?_; (try simp only [Act.put, List.setIfInBounds_toArray, List.set_cons_zero, List.set_cons_succ, List.drop_zero, List.drop_succ_cons, List.take_succ_cons, List.take_zero, setL])))
              | (show Oper.wp _ _ _ _ _ _; (first | (show Oper.wp _ ⟨_, .alloc _, _, _, _, _⟩ _ _ _ _; refine wp_alloc S rfl ?_; clear S; intro b w1 S; (try simp only [Value.cells, List.toList_toArray] at S)) | (show Oper.wp _ ⟨_, .load _ _, _, _, _, _⟩ _ _ _ _; refine wp_load1 S rfl (by with_reducible (repeat (first | exact Has.head | refine Has.tail ?_))) rfl ?_) | (show Oper.wp _ ⟨_, .load _ _, _, _, _, _⟩ _ _ _ _; refine wp_loadN S rfl (by with_reducible (repeat (first | exact Has.head | refine Has.tail ?_))) rfl rfl ?_) | (show Oper.wp _ ⟨_, .store _ _ _, _, _, _, _⟩ _ _ _ _; refine wp_store S rfl rfl rfl (by with_reducible (repeat (first | exact Upd.head | apply Upd.tail))) (by first | exact .inl (Nat.le_refl _) | exact .inr (Nat.le_refl _)) rfl rfl rfl rfl ?_; clear S; intro w1 S; simp only [List.set_cons_zero, List.set_cons_succ, setL, Act.eval, Array.getD_eq_getD_getElem?, List.getElem?_toArray, List.getElem?_cons_succ, List.getElem?_cons_zero, Option.getD_some] at S) | (show Oper.wp _ ⟨_, .binOp .eql _ _ _ _, _, _, _, _⟩ _ _ _ _; refine wp_eqAgg rfl rfl rfl rfl ?_; simp only [eqCells, eqVal, Bool.and_true]) | (show Oper.wp _ ⟨_, .binOp .neq _ _ _ _, _, _, _, _⟩ _ _ _ _; refine wp_neAgg rfl rfl rfl rfl ?_; simp only [eqCells, eqVal, Bool.and_true])) <;> simp only [Act.put, List.setIfInBounds_toArray, List.set_cons_zero, List.set_cons_succ, List.drop_zero, List.drop_succ_cons, List.take_succ_cons, List.take_zero, setL])
              | go_step)
            refine wp_region_D (fun w' => St Nil w w' _) mixed (by kernel_rfl) S.drew ?_
            clear S
            repeat' (first
              | (apply HD_op rfl rfl
                 case' h =>
                   intro wz S K hK
                   repeat' (first
                     | (go_at_K; exact hK _ S)
                     | go_big_hide
                     | go_big_move
                     | go_big_cond
                     | go_big_open
                     | (show Oper.wp _ ⟨_, .indexAddr 69 _ _, _, _, _, _⟩ _ _ _ _; refine wp_indexAddr (i := (k : Int)) (q := o3 + k * 3) rfl rfl (by omega) (by omega) (by simp) ?_; simp only [Act.put, List.setIfInBounds_toArray, List.set_cons_zero, List.set_cons_succ])
                     | (show Oper.wp _ ⟨_, .load _ _, _, _, _, _⟩ _ _ _ _; refine wp_load1_at (off := o3 + k * 3) rfl (HC.out _ (S.mod.block bs hbs0 (fun h => h)) 0 _ rfl) ?_; simp only [Act.put, List.setIfInBounds_toArray, List.set_cons_zero, List.set_cons_succ])
                     | (show Oper.wp _ ⟨_, .binOp .neq _ _ _ _, _, _, _, _⟩ _ _ _ _; refine wp_neAgg (xs := Pfx.cells ⟨1 + a % 6 / 3, 0, adr a, 8⟩) (ys := Pfx.cells ⟨1 + a % 6 / 3, 0, adr a, 8⟩) rfl rfl rfl rfl ?_; rw [eqP', eqPB_self]; simp only [Bool.not_true, Act.put, List.setIfInBounds_toArray, List.set_cons_zero, List.set_cons_succ])
                     | (show Oper.wp _ _ _ _ _ _; (first | (show Oper.wp _ ⟨_, .alloc _, _, _, _, _⟩ _ _ _ _; refine wp_alloc S rfl ?_; clear S; intro b w1 S; (try simp only [Value.cells, List.toList_toArray] at S)) | (show Oper.wp _ ⟨_, .load _ _, _, _, _, _⟩ _ _ _ _; refine wp_load1 S rfl (by with_reducible (repeat (first | exact Has.head | refine Has.tail ?_))) rfl ?_) | (show Oper.wp _ ⟨_, .load _ _, _, _, _, _⟩ _ _ _ _; refine wp_loadN S rfl (by with_reducible (repeat (first | exact Has.head | refine Has.tail ?_))) rfl rfl ?_) | (show Oper.wp _ ⟨_, .store _ _ _, _, _, _, _⟩ _ _ _ _; refine wp_store S rfl rfl rfl (by with_reducible (repeat (first | exact Upd.head | apply Upd.tail))) (by first | exact .inl (Nat.le_refl _) | exact .inr (Nat.le_refl _)) rfl rfl rfl rfl ?_; clear S; intro w1 S; simp only [List.set_cons_zero, List.set_cons_succ, setL, Act.eval, Array.getD_eq_getD_getElem?, List.getElem?_toArray, List.getElem?_cons_succ, List.getElem?_cons_zero, Option.getD_some] at S) | (show Oper.wp _ ⟨_, .binOp .eql _ _ _ _, _, _, _, _⟩ _ _ _ _; refine wp_eqAgg rfl rfl rfl rfl ?_; simp only [eqCells, eqVal, Bool.and_true]) | (show Oper.wp _ ⟨_, .binOp .neq _ _ _ _, _, _, _, _⟩ _ _ _ _; refine wp_neAgg rfl rfl rfl rfl ?_; simp only [eqCells, eqVal, Bool.and_true])))
                     | (go_at_call 36; refine (prefix36_any a _ ha0 ha1).mono ?_; rintro e w1 ⟨rfl, hm⟩; replace S := S.step hm; (try dsimp only))
                     | go_step)
                 simp only [Act.put, List.setIfInBounds_toArray, List.set_cons_zero, List.set_cons_succ, List.drop_zero, List.drop_succ_cons, List.take_succ_cons, List.take_zero, setL])
              | (refine HD_skip rfl ?_; simp only [Act.put, List.setIfInBounds_toArray, List.set_cons_zero, List.set_cons_succ, List.drop_zero, List.drop_succ_cons, List.take_succ_cons, List.take_zero, setL])
              | (refine HD_by rfl rfl ?_ ?_ <;> (intro hc; simp only [hc, Bool.not_true, Bool.not_false]))
              | (refine HD_nil ?_; intro w1 S))
            repeat' (first
              | go_big_hide
              | go_big_move
              | go_big_cond
              | go_big_open
              | (show wpList _ _ _ (⟨_, _, _, _, _, some _⟩ :: _) _ _; first | (refine wpList_g rfl ?_ ?_ <;> (intro hc; (try simp only [Bool.not_true, Bool.not_false, reduceCtorEq] at hc); (try (change True at hc; clear hc)); (try simp only [hc, Bool.not_true, Bool.not_false]); (try simp only [Act.put, List.setIfInBounds_toArray, List.set_cons_zero, List.set_cons_succ, List.drop_zero, List.drop_succ_cons, List.take_succ_cons, List.take_zero, setL]))) | (refine wpList_g0 rfl ?_; (try simp only [Act.put, List.setIfInBounds_toArray, List.set_cons_zero, List.set_cons_succ, List.drop_zero, List.drop_succ_cons, List.take_succ_cons, List.take_zero, setL])))
              | (show Oper.wp _ _ _ _ _ _; (first | (show Oper.wp _ ⟨_, .alloc _, _, _, _, _⟩ _ _ _ _; refine wp_alloc S rfl ?_; clear S; intro b w1 S; (try simp only [Value.cells, List.toList_toArray] at S)) | (show Oper.wp _ ⟨_, .load _ _, _, _, _, _⟩ _ _ _ _; refine wp_load1 S rfl (by with_reducible (repeat (first | exact Has.head | refine Has.tail ?_))) rfl ?_) | (show Oper.wp _ ⟨_, .load _ _, _, _, _, _⟩ _ _ _ _; refine wp_loadN S rfl (by with_reducible (repeat (first | exact Has.head | refine Has.tail ?_))) rfl rfl ?_) | (show Oper.wp _ ⟨_, .store _ _ _, _, _, _, _⟩ _ _ _ _; refine wp_store S rfl rfl rfl (by with_reducible (repeat (first | exact Upd.head | apply Upd.tail))) (by first | exact .inl (Nat.le_refl _) | exact .inr (Nat.le_refl _)) rfl rfl rfl rfl ?_; clear S; intro w1 S; simp only [List.set_cons_zero, List.set_cons_succ, setL, Act.eval, Array.getD_eq_getD_getElem?, List.getElem?_toArray, List.getElem?_cons_succ, List.getElem?_cons_zero, Option.getD_some] at S) | (show Oper.wp _ ⟨_, .binOp .eql _ _ _ _, _, _, _, _⟩ _ _ _ _; refine wp_eqAgg rfl rfl rfl rfl ?_; simp only [eqCells, eqVal, Bool.and_true]) | (show Oper.wp _ ⟨_, .binOp .neq _ _ _ _, _, _, _, _⟩ _ _ _ _; refine wp_neAgg rfl rfl rfl rfl ?_; simp only [eqCells, eqVal, Bool.and_true])) <;> simp only [Act.put, List.setIfInBounds_toArray, List.set_cons_zero, List.set_cons_succ, List.drop_zero, List.drop_succ_cons, List.take_succ_cons, List.take_zero, setL])
              | go_step)
            refine wp_region_D (fun w' => St Nil w w' _) mixed (by kernel_rfl) S.drew ?_
            clear S
            repeat' (first
              | (apply HD_op rfl rfl
                 case' h =>
                   intro wz S K hK
                   repeat' (first
                     | (go_at_K; exact hK _ S)
                     | go_big_hide
                     | go_big_move
                     | go_big_cond
                     | go_big_open
                     | (show Oper.wp _ ⟨_, .indexAddr 72 _ _, _, _, _, _⟩ _ _ _ _; refine wp_indexAddr (i := 4 * (a % 6) + (j : Int)) (q := n) rfl rfl (by omega) (by omega) (by rw [Hnn.out]; simp) ?_; simp only [Act.put, List.setIfInBounds_toArray, List.set_cons_zero, List.set_cons_succ])
                     | (show Oper.wp _ ⟨_, .indexAddr 31 _ _, _, _, _, _⟩ _ _ _ _; refine wp_indexAddr (i := 4 * (a % 6) + (j : Int)) (q := n) rfl rfl (by omega) (by omega) (by rw [Hnn.out]; simp) ?_; simp only [Act.put, List.setIfInBounds_toArray, List.set_cons_zero, List.set_cons_succ])
                     | (show Oper.wp _ ⟨_, .load _ _, _, _, _, _⟩ _ _ _ _; refine wp_load1 S rfl (by with_reducible (repeat (first | exact Has.head | refine Has.tail ?_))) Ht1.out ?_; simp only [Act.put, List.setIfInBounds_toArray, List.set_cons_zero, List.set_cons_succ])
                     | (show Oper.wp _ ⟨_, .load _ _, _, _, _, _⟩ _ _ _ _; refine wp_load1 S rfl (by with_reducible (repeat (first | exact Has.head | refine Has.tail ?_))) Hm1.out ?_; simp only [Act.put, List.setIfInBounds_toArray, List.set_cons_zero, List.set_cons_succ])
                     | (show Oper.wp _ _ _ _ _ _; (first | (show Oper.wp _ ⟨_, .alloc _, _, _, _, _⟩ _ _ _ _; refine wp_alloc S rfl ?_; clear S; intro b w1 S; (try simp only [Value.cells, List.toList_toArray] at S)) | (show Oper.wp _ ⟨_, .load _ _, _, _, _, _⟩ _ _ _ _; refine wp_load1 S rfl (by with_reducible (repeat (first | exact Has.head | refine Has.tail ?_))) rfl ?_) | (show Oper.wp _ ⟨_, .load _ _, _, _, _, _⟩ _ _ _ _; refine wp_loadN S rfl (by with_reducible (repeat (first | exact Has.head | refine Has.tail ?_))) rfl rfl ?_) | (show Oper.wp _ ⟨_, .store _ _ _, _, _, _, _⟩ _ _ _ _; refine wp_store S rfl rfl rfl (by with_reducible (repeat (first | exact Upd.head | apply Upd.tail))) (by first | exact .inl (Nat.le_refl _) | exact .inr (Nat.le_refl _)) rfl rfl rfl rfl ?_; clear S; intro w1 S; simp only [List.set_cons_zero, List.set_cons_succ, setL, Act.eval, Array.getD_eq_getD_getElem?, List.getElem?_toArray, List.getElem?_cons_succ, List.getElem?_cons_zero, Option.getD_some] at S) | (show Oper.wp _ ⟨_, .binOp .eql _ _ _ _, _, _, _, _⟩ _ _ _ _; refine wp_eqAgg rfl rfl rfl rfl ?_; simp only [eqCells, eqVal, Bool.and_true]) | (show Oper.wp _ ⟨_, .binOp .neq _ _ _ _, _, _, _, _⟩ _ _ _ _; refine wp_neAgg rfl rfl rfl rfl ?_; simp only [eqCells, eqVal, Bool.and_true])))
                     | go_step)
                 simp only [Act.put, List.setIfInBounds_toArray, List.set_cons_zero, List.set_cons_succ, List.drop_zero, List.drop_succ_cons, List.take_succ_cons, List.take_zero, setL])
              | (refine HD_skip rfl ?_; simp only [Act.put, List.setIfInBounds_toArray, List.set_cons_zero, List.set_cons_succ, List.drop_zero, List.drop_succ_cons, List.take_succ_cons, List.take_zero, setL])
              | (refine HD_by rfl rfl ?_ ?_ <;> (intro hc; simp only [hc, Bool.not_true, Bool.not_false]))
              | (refine HD_nil ?_; intro w1 S))
            repeat' (first
              | go_big_hide
              | go_big_move
              | go_big_cond
              | go_big_open
              | (show Oper.wp _ ⟨_, .indexAddr 72 _ _, _, _, _, _⟩ _ _ _ _; refine wp_indexAddr (i := 4 * (a % 6) + (j : Int)) (q := n) rfl rfl (by omega) (by omega) (by rw [Hnn.out]; simp) ?_; simp only [Act.put, List.setIfInBounds_toArray, List.set_cons_zero, List.set_cons_succ])
              | (show Oper.wp _ ⟨_, .indexAddr 31 _ _, _, _, _, _⟩ _ _ _ _; refine wp_indexAddr (i := 4 * (a % 6) + (j : Int)) (q := n) rfl rfl (by omega) (by omega) (by rw [Hnn.out]; simp) ?_; simp only [Act.put, List.setIfInBounds_toArray, List.set_cons_zero, List.set_cons_succ])
              | (show Oper.wp _ ⟨_, .store _ _ _, _, _, _, _⟩ _ _ _ _; refine wp_store S rfl rfl rfl (Upd.tail (Upd.tail (Upd.tail (Upd.tail (Upd.tail (Upd.head)))))) (.inl (Nat.le_refl _)) rfl (set_map Value.bool tq n _) Hle1.out rfl ?_; clear S; intro w1 S; simp only [Act.put, List.setIfInBounds_toArray, List.set_cons_zero, List.set_cons_succ])
              | (show Oper.wp _ ⟨_, .store _ _ _, _, _, _, _⟩ _ _ _ _; refine wp_store S rfl rfl rfl (Upd.tail (Upd.tail (Upd.tail (Upd.tail (Upd.head))))) (.inl (Nat.le_refl _)) rfl (set_map (Value.int .u32) mq n _) Hle2.out rfl ?_; clear S; intro w1 S; simp only [Act.put, List.setIfInBounds_toArray, List.set_cons_zero, List.set_cons_succ])
              | (show wpList _ _ _ (⟨_, _, _, _, _, some _⟩ :: _) _ _; first | (refine wpList_g rfl ?_ ?_ <;> (intro hc; (try simp only [Bool.not_true, Bool.not_false, reduceCtorEq] at hc); (try (change True at hc; clear hc)); (try simp only [hc, Bool.not_true, Bool.not_false]); (try simp only [Act.put, List.setIfInBounds_toArray, List.set_cons_zero, List.set_cons_succ, List.drop_zero, List.drop_succ_cons, List.take_succ_cons, List.take_zero, setL]))) | (refine wpList_g0 rfl ?_; (try simp only [Act.put, List.setIfInBounds_toArray, List.set_cons_zero, List.set_cons_succ, List.drop_zero, List.drop_succ_cons, List.take_succ_cons, List.take_zero, setL])))
              | (show Oper.wp _ _ _ _ _ _; (first | (show Oper.wp _ ⟨_, .alloc _, _, _, _, _⟩ _ _ _ _; refine wp_alloc S rfl ?_; clear S; intro b w1 S; (try simp only [Value.cells, List.toList_toArray] at S)) | (show Oper.wp _ ⟨_, .load _ _, _, _, _, _⟩ _ _ _ _; refine wp_load1 S rfl (by with_reducible (repeat (first | exact Has.head | refine Has.tail ?_))) rfl ?_) | (show Oper.wp _ ⟨_, .load _ _, _, _, _, _⟩ _ _ _ _; refine wp_loadN S rfl (by with_reducible (repeat (first | exact Has.head | refine Has.tail ?_))) rfl rfl ?_) | (show Oper.wp _ ⟨_, .store _ _ _, _, _, _, _⟩ _ _ _ _; refine wp_store S rfl rfl rfl (by with_reducible (repeat (first | exact Upd.head | apply Upd.tail))) (by first | exact .inl (Nat.le_refl _) | exact .inr (Nat.le_refl _)) rfl rfl rfl rfl ?_; clear S; intro w1 S; simp only [List.set_cons_zero, List.set_cons_succ, setL, Act.eval, Array.getD_eq_getD_getElem?, List.getElem?_toArray, List.getElem?_cons_succ, List.getElem?_cons_zero, Option.getD_some] at S) | (show Oper.wp _ ⟨_, .binOp .eql _ _ _ _, _, _, _, _⟩ _ _ _ _; refine wp_eqAgg rfl rfl rfl rfl ?_; simp only [eqCells, eqVal, Bool.and_true]) | (show Oper.wp _ ⟨_, .binOp .neq _ _ _ _, _, _, _, _⟩ _ _ _ _; refine wp_neAgg rfl rfl rfl rfl ?_; simp only [eqCells, eqVal, Bool.and_true])) <;> simp only [Act.put, List.setIfInBounds_toArray, List.set_cons_zero, List.set_cons_succ, List.drop_zero, List.drop_succ_cons, List.take_succ_cons, List.take_zero, setL])
              | go_step)
            go_roundw
            case rel => exact ⟨0 + 1, by omega, by go_num, by rw [Hth1.out, Hmd1.out]; exact S.sub (List.Sublist.cons _ (List.Sublist.refl _))⟩
            case measure => simp [intOf]; omega
        · obtain rfl : t = true := ht2 rfl
          clear ht2 ht3
          repeat' (first
            | go_big_hide
            | go_big_move
            | go_big_cond
            | go_big_open
            | (show Oper.wp _ ⟨_, .indexAddr 76 _ _, _, _, _, _⟩ _ _ _ _; refine wp_indexAddr (i := (q : Int)) (q := q * 23) rfl rfl (by omega) (by omega) (by simp) ?_; simp only [Act.put, List.setIfInBounds_toArray, List.set_cons_zero, List.set_cons_succ])
            | (show Oper.wp _ ⟨_, .load _ _, _, _, _, _⟩ _ _ _ _; refine wp_loadNO S rfl Has.head Hcut.out rfl ?_; simp only [Act.put, List.setIfInBounds_toArray, List.set_cons_zero, List.set_cons_succ])
            | (show wpList _ _ _ (⟨_, _, _, _, _, some _⟩ :: _) _ _; first | (refine wpList_g rfl ?_ ?_ <;> (intro hc; (try simp only [Bool.not_true, Bool.not_false, reduceCtorEq] at hc); (try (change True at hc; clear hc)); (try simp only [hc, Bool.not_true, Bool.not_false]); (try simp only [Act.put, List.setIfInBounds_toArray, List.set_cons_zero, List.set_cons_succ, List.drop_zero, List.drop_succ_cons, List.take_succ_cons, List.take_zero, setL]))) | (refine wpList_g0 rfl ?_; (try simp only [Act.put, List.setIfInBounds_toArray, List.set_cons_zero, List.set_cons_succ, List.drop_zero, List.drop_succ_cons, List.take_succ_cons, List.take_zero, setL])))
            | (show Oper.wp _ _ _ _ _ _; (first | (show Oper.wp _ ⟨_, .alloc _, _, _, _, _⟩ _ _ _ _; refine wp_alloc S rfl ?_; clear S; intro b w1 S; (try simp only [Value.cells, List.toList_toArray] at S)) | (show Oper.wp _ ⟨_, .load _ _, _, _, _, _⟩ _ _ _ _; refine wp_load1 S rfl (by with_reducible (repeat (first | exact Has.head | refine Has.tail ?_))) rfl ?_) | (show Oper.wp _ ⟨_, .load _ _, _, _, _, _⟩ _ _ _ _; refine wp_loadN S rfl (by with_reducible (repeat (first | exact Has.head | refine Has.tail ?_))) rfl rfl ?_) | (show Oper.wp _ ⟨_, .store _ _ _, _, _, _, _⟩ _ _ _ _; refine wp_store S rfl rfl rfl (by with_reducible (repeat (first | exact Upd.head | apply Upd.tail))) (by first | exact .inl (Nat.le_refl _) | exact .inr (Nat.le_refl _)) rfl rfl rfl rfl ?_; clear S; intro w1 S; simp only [List.set_cons_zero, List.set_cons_succ, setL, Act.eval, Array.getD_eq_getD_getElem?, List.getElem?_toArray, List.getElem?_cons_succ, List.getElem?_cons_zero, Option.getD_some] at S) | (show Oper.wp _ ⟨_, .binOp .eql _ _ _ _, _, _, _, _⟩ _ _ _ _; refine wp_eqAgg rfl rfl rfl rfl ?_; simp only [eqCells, eqVal, Bool.and_true]) | (show Oper.wp _ ⟨_, .binOp .neq _ _ _ _, _, _, _, _⟩ _ _ _ _; refine wp_neAgg rfl rfl rfl rfl ?_; simp only [eqCells, eqVal, Bool.and_true])) <;> simp only [Act.put, List.setIfInBounds_toArray, List.set_cons_zero, List.set_cons_succ, List.drop_zero, List.drop_succ_cons, List.take_succ_cons, List.take_zero, setL])
            | go_step)
          refine wp_region_D (fun w' => St Nil w w' _) mixed (by kernel_rfl) S.drew ?_
          clear S
          repeat' (first
            | (apply HD_op rfl rfl
               case' h =>
                 intro wz S K hK
                 repeat' (first
                   | (go_at_K; exact hK _ S)
                   | go_big_hide
                   | go_big_move
                   | go_big_cond
                   | go_big_open
                   | (show Oper.wp _ ⟨_, .indexAddr 69 _ _, _, _, _, _⟩ _ _ _ _; refine wp_indexAddr (i := (k : Int)) (q := o3 + k * 3) rfl rfl (by omega) (by omega) (by simp) ?_; simp only [Act.put, List.setIfInBounds_toArray, List.set_cons_zero, List.set_cons_succ])
                   | (show Oper.wp _ ⟨_, .load _ _, _, _, _, _⟩ _ _ _ _; refine wp_load1_at (off := o3 + k * 3) rfl (HC.out _ (S.mod.block bs hbs0 (fun h => h)) 0 _ rfl) ?_; simp only [Act.put, List.setIfInBounds_toArray, List.set_cons_zero, List.set_cons_succ])
                   | (show Oper.wp _ ⟨_, .binOp .neq _ _ _ _, _, _, _, _⟩ _ _ _ _; refine wp_neAgg (xs := Pfx.cells ⟨1 + a % 6 / 3, 0, adr a, 8⟩) (ys := Pfx.cells ⟨1 + a % 6 / 3, 0, adr a, 8⟩) rfl rfl rfl rfl ?_; rw [eqP', eqPB_self]; simp only [Bool.not_true, Act.put, List.setIfInBounds_toArray, List.set_cons_zero, List.set_cons_succ])
                   | (show Oper.wp _ _ _ _ _ _; (first | (show Oper.wp _ ⟨_, .alloc _, _, _, _, _⟩ _ _ _ _; refine wp_alloc S rfl ?_; clear S; intro b w1 S; (try simp only [Value.cells, List.toList_toArray] at S)) | (show Oper.wp _ ⟨_, .load _ _, _, _, _, _⟩ _ _ _ _; refine wp_load1 S rfl (by with_reducible (repeat (first | exact Has.head | refine Has.tail ?_))) rfl ?_) | (show Oper.wp _ ⟨_, .load _ _, _, _, _, _⟩ _ _ _ _; refine wp_loadN S rfl (by with_reducible (repeat (first | exact Has.head | refine Has.tail ?_))) rfl rfl ?_) | (show Oper.wp _ ⟨_, .store _ _ _, _, _, _, _⟩ _ _ _ _; refine wp_store S rfl rfl rfl (by with_reducible (repeat (first | exact Upd.head | apply Upd.tail))) (by first | exact .inl (Nat.le_refl _) | exact .inr (Nat.le_refl _)) rfl rfl rfl rfl ?_; clear S; intro w1 S; simp only [List.set_cons_zero, List.set_cons_succ, setL, Act.eval, Array.getD_eq_getD_getElem?, List.getElem?_toArray, List.getElem?_cons_succ, List.getElem?_cons_zero, Option.getD_some] at S) | (show Oper.wp _ ⟨_, .binOp .eql _ _ _ _, _, _, _, _⟩ _ _ _ _; refine wp_eqAgg rfl rfl rfl rfl ?_; simp only [eqCells, eqVal, Bool.and_true]) | (show Oper.wp _ ⟨_, .binOp .neq _ _ _ _, _, _, _, _⟩ _ _ _ _; refine wp_neAgg rfl rfl rfl rfl ?_; simp only [eqCells, eqVal, Bool.and_true])))
                   | (go_at_call 36; refine (prefix36_any a _ ha0 ha1).mono ?_; rintro e w1 ⟨rfl, hm⟩; replace S := S.step hm; (try dsimp only))
                   | go_step)
               simp only [Act.put, List.setIfInBounds_toArray, List.set_cons_zero, List.set_cons_succ, List.drop_zero, List.drop_succ_cons, List.take_succ_cons, List.take_zero, setL])
            | (refine HD_skip rfl ?_; simp only [Act.put, List.setIfInBounds_toArray, List.set_cons_zero, List.set_cons_succ, List.drop_zero, List.drop_succ_cons, List.take_succ_cons, List.take_zero, setL])
            | (refine HD_by rfl rfl ?_ ?_ <;> (intro hc; simp only [hc, Bool.not_true, Bool.not_false]))
            | (refine HD_nil ?_; intro w1 S))
          repeat' (first
            | go_big_hide
            | go_big_move
            | go_big_cond
            | go_big_open
            | (show wpList _ _ _ (⟨_, _, _, _, _, some _⟩ :: _) _ _; first | (refine wpList_g rfl ?_ ?_ <;> (intro hc; (try simp only [Bool.not_true, Bool.not_false, reduceCtorEq] at hc); (try (change True at hc; clear hc)); (try simp only [hc, Bool.not_true, Bool.not_false]); (try simp only [Act.put, List.setIfInBounds_toArray, List.set_cons_zero, List.set_cons_succ, List.drop_zero, List.drop_succ_cons, List.take_succ_cons, List.take_zero, setL]))) | (refine wpList_g0 rfl ?_; (try simp only [Act.put, List.setIfInBounds_toArray, List.set_cons_zero, List.set_cons_succ, List.drop_zero, List.drop_succ_cons, List.take_succ_cons, List.take_zero, setL])))
            | (show Oper.wp _ _ _ _ _ _; (first | (show Oper.wp _ ⟨_, .alloc _, _, _, _, _⟩ _ _ _ _; refine wp_alloc S rfl ?_; clear S; intro b w1 S; (try simp only [Value.cells, List.toList_toArray] at S)) | (show Oper.wp _ ⟨_, .load _ _, _, _, _, _⟩ _ _ _ _; refine wp_load1 S rfl (by with_reducible (repeat (first | exact Has.head | refine Has.tail ?_))) rfl ?_) | (show Oper.wp _ ⟨_, .load _ _, _, _, _, _⟩ _ _ _ _; refine wp_loadN S rfl (by with_reducible (repeat (first | exact Has.head | refine Has.tail ?_))) rfl rfl ?_) | (show Oper.wp _ ⟨_, .store _ _ _, _, _, _, _⟩ _ _ _ _; refine wp_store S rfl rfl rfl (by with_reducible (repeat (first | exact Upd.head | apply Upd.tail))) (by first | exact .inl (Nat.le_refl _) | exact .inr (Nat.le_refl _)) rfl rfl rfl rfl ?_; clear S; intro w1 S; simp only [List.set_cons_zero, List.set_cons_succ, setL, Act.eval, Array.getD_eq_getD_getElem?, List.getElem?_toArray, List.getElem?_cons_succ, List.getElem?_cons_zero, Option.getD_some] at S) | (show Oper.wp _ ⟨_, .binOp .eql _ _ _ _, _, _, _, _⟩ _ _ _ _; refine wp_eqAgg rfl rfl rfl rfl ?_; simp only [eqCells, eqVal, Bool.and_true]) | (show Oper.wp _ ⟨_, .binOp .neq _ _ _ _, _, _, _, _⟩ _ _ _ _; refine wp_neAgg rfl rfl rfl rfl ?_; simp only [eqCells, eqVal, Bool.and_true])) <;> simp only [Act.put, List.setIfInBounds_toArray, List.set_cons_zero, List.set_cons_succ, List.drop_zero, List.drop_succ_cons, List.take_succ_cons, List.take_zero, setL])
            | go_step)
          refine wp_region_D (fun w' => St Nil w w' _) mixed (by kernel_rfl) S.drew ?_
          clear S
          repeat' (first
            | (apply HD_op rfl rfl
               case' h =>
                 intro wz S K hK
                 repeat' (first
                   | (go_at_K; exact hK _ S)
                   | go_big_hide
                   | go_big_move
                   | go_big_cond
                   | go_big_open
                   | (show Oper.wp _ ⟨_, .indexAddr 72 _ _, _, _, _, _⟩ _ _ _ _; refine wp_indexAddr (i := 4 * (a % 6) + (j : Int)) (q := n) rfl rfl (by omega) (by omega) (by rw [Hnn.out]; simp) ?_; simp only [Act.put, List.setIfInBounds_toArray, List.set_cons_zero, List.set_cons_succ])
                   | (show Oper.wp _ ⟨_, .indexAddr 31 _ _, _, _, _, _⟩ _ _ _ _; refine wp_indexAddr (i := 4 * (a % 6) + (j : Int)) (q := n) rfl rfl (by omega) (by omega) (by rw [Hnn.out]; simp) ?_; simp only [Act.put, List.setIfInBounds_toArray, List.set_cons_zero, List.set_cons_succ])
                   | (show Oper.wp _ ⟨_, .load _ _, _, _, _, _⟩ _ _ _ _; refine wp_load1 S rfl (by with_reducible (repeat (first | exact Has.head | refine Has.tail ?_))) Ht1.out ?_; simp only [Act.put, List.setIfInBounds_toArray, List.set_cons_zero, List.set_cons_succ])
                   | (show Oper.wp _ _ _ _ _ _; (first | (show Oper.wp _ ⟨_, .alloc _, _, _, _, _⟩ _ _ _ _; refine wp_alloc S rfl ?_; clear S; intro b w1 S; (try simp only [Value.cells, List.toList_toArray] at S)) | (show Oper.wp _ ⟨_, .load _ _, _, _, _, _⟩ _ _ _ _; refine wp_load1 S rfl (by with_reducible (repeat (first | exact Has.head | refine Has.tail ?_))) rfl ?_) | (show Oper.wp _ ⟨_, .load _ _, _, _, _, _⟩ _ _ _ _; refine wp_loadN S rfl (by with_reducible (repeat (first | exact Has.head | refine Has.tail ?_))) rfl rfl ?_) | (show Oper.wp _ ⟨_, .store _ _ _, _, _, _, _⟩ _ _ _ _; refine wp_store S rfl rfl rfl (by with_reducible (repeat (first | exact Upd.head | apply Upd.tail))) (by first | exact .inl (Nat.le_refl _) | exact .inr (Nat.le_refl _)) rfl rfl rfl rfl ?_; clear S; intro w1 S; simp only [List.set_cons_zero, List.set_cons_succ, setL, Act.eval, Array.getD_eq_getD_getElem?, List.getElem?_toArray, List.getElem?_cons_succ, List.getElem?_cons_zero, Option.getD_some] at S) | (show Oper.wp _ ⟨_, .binOp .eql _ _ _ _, _, _, _, _⟩ _ _ _ _; refine wp_eqAgg rfl rfl rfl rfl ?_; simp only [eqCells, eqVal, Bool.and_true]) | (show Oper.wp _ ⟨_, .binOp .neq _ _ _ _, _, _, _, _⟩ _ _ _ _; refine wp_neAgg rfl rfl rfl rfl ?_; simp only [eqCells, eqVal, Bool.and_true])))
                   | go_step)
               simp only [Act.put, List.setIfInBounds_toArray, List.set_cons_zero, List.set_cons_succ, List.drop_zero, List.drop_succ_cons, List.take_succ_cons, List.take_zero, setL])
            | (refine HD_skip rfl ?_; simp only [Act.put, List.setIfInBounds_toArray, List.set_cons_zero, List.set_cons_succ, List.drop_zero, List.drop_succ_cons, List.take_succ_cons, List.take_zero, setL])
            | (refine HD_by rfl rfl ?_ ?_ <;> (intro hc; simp only [hc, Bool.not_true, Bool.not_false]))
            | (refine HD_nil ?_; intro w1 S))
          repeat' (first
            | go_big_hide
            | go_big_move
            | go_big_cond
            | go_big_open
            | (show Oper.wp _ ⟨_, .indexAddr 72 _ _, _, _, _, _⟩ _ _ _ _; refine wp_indexAddr (i := 4 * (a % 6) + (j : Int)) (q := n) rfl rfl (by omega) (by omega) (by rw [Hnn.out]; simp) ?_; simp only [Act.put, List.setIfInBounds_toArray, List.set_cons_zero, List.set_cons_succ])
            | (show Oper.wp _ ⟨_, .indexAddr 31 _ _, _, _, _, _⟩ _ _ _ _; refine wp_indexAddr (i := 4 * (a % 6) + (j : Int)) (q := n) rfl rfl (by omega) (by omega) (by rw [Hnn.out]; simp) ?_; simp only [Act.put, List.setIfInBounds_toArray, List.set_cons_zero, List.set_cons_succ])
            | (show Oper.wp _ ⟨_, .store _ _ _, _, _, _, _⟩ _ _ _ _; refine wp_store S rfl rfl rfl (Upd.tail (Upd.tail (Upd.tail (Upd.tail (Upd.tail (Upd.head)))))) (.inl (Nat.le_refl _)) rfl (set_map Value.bool tq n _) Hle1.out rfl ?_; clear S; intro w1 S; simp only [Act.put, List.setIfInBounds_toArray, List.set_cons_zero, List.set_cons_succ])
            | (show Oper.wp _ ⟨_, .store _ _ _, _, _, _, _⟩ _ _ _ _; refine wp_store S rfl rfl rfl (Upd.tail (Upd.tail (Upd.tail (Upd.tail (Upd.head))))) (.inl (Nat.le_refl _)) rfl (set_map (Value.int .u32) mq n _) Hle2.out rfl ?_; clear S; intro w1 S; simp only [Act.put, List.setIfInBounds_toArray, List.set_cons_zero, List.set_cons_succ])
            | (show wpList _ _ _ (⟨_, _, _, _, _, some _⟩ :: _) _ _; first | (refine wpList_g rfl ?_ ?_ <;> (intro hc; (try simp only [Bool.not_true, Bool.not_false, reduceCtorEq] at hc); (try (change True at hc; clear hc)); (try simp only [hc, Bool.not_true, Bool.not_false]); (try simp only [Act.put, List.setIfInBounds_toArray, List.set_cons_zero, List.set_cons_succ, List.drop_zero, List.drop_succ_cons, List.take_succ_cons, List.take_zero, setL]))) | (refine wpList_g0 rfl ?_; (try simp only [Act.put, List.setIfInBounds_toArray, List.set_cons_zero, List.set_cons_succ, List.drop_zero, List.drop_succ_cons, List.take_succ_cons, List.take_zero, setL])))
            | (show Oper.wp _ _ _ _ _ _; (first | (show Oper.wp _ ⟨_, .alloc _, _, _, _, _⟩ _ _ _ _; refine wp_alloc S rfl ?_; clear S; intro b w1 S; (try simp only [Value.cells, List.toList_toArray] at S)) | (show Oper.wp _ ⟨_, .load _ _, _, _, _, _⟩ _ _ _ _; refine wp_load1 S rfl (by with_reducible (repeat (first | exact Has.head | refine Has.tail ?_))) rfl ?_) | (show Oper.wp _ ⟨_, .load _ _, _, _, _, _⟩ _ _ _ _; refine wp_loadN S rfl (by with_reducible (repeat (first | exact Has.head | refine Has.tail ?_))) rfl rfl ?_) | (show Oper.wp _ ⟨_, .store _ _ _, _, _, _, _⟩ _ _ _ _; refine wp_store S rfl rfl rfl (by with_reducible (repeat (first | exact Upd.head | apply Upd.tail))) (by first | exact .inl (Nat.le_refl _) | exact .inr (Nat.le_refl _)) rfl rfl rfl rfl ?_; clear S; intro w1 S; simp only [List.set_cons_zero, List.set_cons_succ, setL, Act.eval, Array.getD_eq_getD_getElem?, List.getElem?_toArray, List.getElem?_cons_succ, List.getElem?_cons_zero, Option.getD_some] at S) | (show Oper.wp _ ⟨_, .binOp .eql _ _ _ _, _, _, _, _⟩ _ _ _ _; refine wp_eqAgg rfl rfl rfl rfl ?_; simp only [eqCells, eqVal, Bool.and_true]) | (show Oper.wp _ ⟨_, .binOp .neq _ _ _ _, _, _, _, _⟩ _ _ _ _; refine wp_neAgg rfl rfl rfl rfl ?_; simp only [eqCells, eqVal, Bool.and_true])) <;> simp only [Act.put, List.setIfInBounds_toArray, List.set_cons_zero, List.set_cons_succ, List.drop_zero, List.drop_succ_cons, List.take_succ_cons, List.take_zero, setL])
            | go_step)
          go_roundw
          case rel => exact ⟨0 + 1, by omega, by go_num, by rw [Hth1.out, Hmd1.out]; exact S.sub (List.Sublist.cons _ (List.Sublist.refl _))⟩
          case measure => simp [intOf]; omega
    · have hqe : q = out.length := by omega
      subst hqe
      rw [List.take_length] at S
      clear hI hout hasc hps
      repeat' (first
        | go_big_hide
        | go_big_move
        | go_big_cond
        | go_big_open
        | (show wpList _ _ _ (⟨_, _, _, _, _, some _⟩ :: _) _ _; first | (refine wpList_g rfl ?_ ?_ <;> (intro hc; (try simp only [Bool.not_true, Bool.not_false, reduceCtorEq] at hc); (try (change True at hc; clear hc)); (try simp only [hc, Bool.not_true, Bool.not_false]); (try simp only [Act.put, List.setIfInBounds_toArray, List.set_cons_zero, List.set_cons_succ, List.drop_zero, List.drop_succ_cons, List.take_succ_cons, List.take_zero, setL]))) | (refine wpList_g0 rfl ?_; (try simp only [Act.put, List.setIfInBounds_toArray, List.set_cons_zero, List.set_cons_succ, List.drop_zero, List.drop_succ_cons, List.take_succ_cons, List.take_zero, setL])))
        | (show Oper.wp _ _ _ _ _ _; (first | (show Oper.wp _ ⟨_, .alloc _, _, _, _, _⟩ _ _ _ _; refine wp_alloc S rfl ?_; clear S; intro b w1 S; (try simp only [Value.cells, List.toList_toArray] at S)) | (show Oper.wp _ ⟨_, .load _ _, _, _, _, _⟩ _ _ _ _; refine wp_load1 S rfl (by with_reducible (repeat (first | exact Has.head | refine Has.tail ?_))) rfl ?_) | (show Oper.wp _ ⟨_, .load _ _, _, _, _, _⟩ _ _ _ _; refine wp_loadN S rfl (by with_reducible (repeat (first | exact Has.head | refine Has.tail ?_))) rfl rfl ?_) | (show Oper.wp _ ⟨_, .store _ _ _, _, _, _, _⟩ _ _ _ _; refine wp_store S rfl rfl rfl (by with_reducible (repeat (first | exact Upd.head | apply Upd.tail))) (by first | exact .inl (Nat.le_refl _) | exact .inr (Nat.le_refl _)) rfl rfl rfl rfl ?_; clear S; intro w1 S; simp only [List.set_cons_zero, List.set_cons_succ, setL, Act.eval, Array.getD_eq_getD_getElem?, List.getElem?_toArray, List.getElem?_cons_succ, List.getElem?_cons_zero, Option.getD_some] at S) | (show Oper.wp _ ⟨_, .binOp .eql _ _ _ _, _, _, _, _⟩ _ _ _ _; refine wp_eqAgg rfl rfl rfl rfl ?_; simp only [eqCells, eqVal, Bool.and_true]) | (show Oper.wp _ ⟨_, .binOp .neq _ _ _ _, _, _, _, _⟩ _ _ _ _; refine wp_neAgg rfl rfl rfl rfl ?_; simp only [eqCells, eqVal, Bool.and_true])) <;> simp only [Act.put, List.setIfInBounds_toArray, List.set_cons_zero, List.set_cons_succ, List.drop_zero, List.drop_succ_cons, List.take_succ_cons, List.take_zero, setL])
        | go_step)
      all_goals (first | exact S | apply hexit _ S)
end Go.Proofs.T
