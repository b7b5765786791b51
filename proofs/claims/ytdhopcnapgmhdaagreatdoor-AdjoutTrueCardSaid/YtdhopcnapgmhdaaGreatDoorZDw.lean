/-
  Plain laws on the data and on what the functions compute (no program in sight).
-/
import Derived.Test.YtdhopcnapgmhdaaGreatDoorZDc
import Derived.Test.YtdhopcnapgmhdaaGreatDoorZSh
set_option linter.unusedSimpArgs false
set_option linter.unusedVariables false
set_option linter.unusedSectionVars false
namespace Go.Hd
open Go Go.Sx
theorem eqP (p q : Pfx) : eqCells p.cells q.cells = decide (p = q) := by
  obtain ⟨a, b, c, d⟩ := p
  obtain ⟨a', b', c', d'⟩ := q
  rw [Bool.eq_iff_iff]
  simp [Pfx.cells, eqCells, eqVal]
theorem eqN (p q : Nl) : eqCells p.cells q.cells = decide (p = q) := by
  obtain ⟨⟨a, b, c, d⟩, e, f⟩ := p
  obtain ⟨⟨a', b', c', d'⟩, e', f'⟩ := q
  rw [Bool.eq_iff_iff]
  simp [Nl.cells, eqCells, eqVal]
  constructor
  · rintro ⟨rfl, rfl, rfl, rfl, rfl, rfl⟩; simp
  · rintro ⟨⟨rfl, rfl, rfl, rfl⟩, rfl, rfl⟩; simp
def eqPB (p q : Pfx) : Bool := decide (p = q)
def eqNB (p q : Nl) : Bool := decide (p = q)
theorem eqP' (p q : Pfx) : eqCells p.cells q.cells = eqPB p q := eqP p q
theorem eqN' (p q : Nl) : eqCells p.cells q.cells = eqNB p q := eqN p q
theorem eqPB_true {p q : Pfx} : eqPB p q = true ↔ p = q := by simp [eqPB]
theorem eqPB_false {p q : Pfx} : eqPB p q = false ↔ p ≠ q := by simp [eqPB]
theorem eqNB_true {p q : Nl} : eqNB p q = true ↔ p = q := by simp [eqNB]
theorem eqNB_false {p q : Nl} : eqNB p q = false ↔ p ≠ q := by simp [eqNB]
theorem cells23 (c : Ch) : c.cells.length = 23 := rfl

/-! ### What was told, what is wanted -/
abbrev Tolds := List ((Pfx × Int) × Ch × Nat)
def kv (M : Tolds) : List ((Pfx × Int) × Ch) := M.map fun e => (e.1, e.2.1)
def goodC (p : Pfx) (c : Ch) : Bool := !c.gone && decide (c.n.p = p) && okN c.n && okA c.a
def mayL (p : Pfx) (l : List Ch) : Bool := l.all (goodC p) && decide (l.map Ch.key).Nodup
structure ToldsOk (M : Tolds) : Prop where
  key : ∀ e ∈ M, e.2.1.key = e.1
  live : ∀ e ∈ M, e.2.1.gone = false
def goneOf (c : Ch) : Ch := ⟨true, ⟨c.n.p, c.n.id, 0⟩, ⟨0, false, 0⟩⟩
theorem goneOf_key (c : Ch) : (goneOf c).key = c.key := rfl
def asked (l : List Ch) : List ((Pfx × Int) × Ch) := l.map fun c => (c.key, c)
/-- Is it to be taken back? -/
def toDel (p : Pfx) (l : List Ch) (e : (Pfx × Int) × Ch × Nat) : Bool := decide (e.1.1 = p) && !decide (e.1 ∈ l.map Ch.key)
def dels (M : Tolds) (p : Pfx) (l : List Ch) : List Ch := (M.filter (toDel p l)).map fun e => goneOf e.2.1
def toAdd (M : Tolds) (c : Ch) : Bool := !decide (mget c.key M = some c)
def outOf (M : Tolds) (p : Pfx) (l : List Ch) : List Ch := dels M p l ++ l.filter (toAdd M)

/-! #### The first loop -/
theorem mget_mem {κ ν : Type} [DecidableEq κ] {k : κ} {M : List (κ × ν × Nat)} : (mget k M).isSome = decide (k ∈ M.map (·.1)) := by
  rw [Bool.eq_iff_iff]
  simp only [mget, Option.isSome_map, List.find?_isSome, decide_eq_true_eq, List.mem_map, beq_iff_eq]
theorem kv_keys (M : Tolds) : (kv M).map (·.1) = M.map (·.1) := by simp [kv]
theorem asked_keys (l : List Ch) : (asked l).map (·.1) = l.map Ch.key := by simp [asked]
theorem step_twice {W : Tolds} {l : List Ch} (h : kv W = asked l) (k : Pfx × Int) : (mget k W).isSome = decide (k ∈ l.map Ch.key) := by
  rw [mget_mem]; congr 2; rw [← kv_keys, h, asked_keys]
theorem step_put {W : Tolds} {l : List Ch} {cW : Nat} (h : kv W = asked l) (c : Ch) (hn : c.key ∉ l.map Ch.key) : kv (mput c.key c cW W) = asked (l ++ [c]) := by
  have h1 : (mget c.key W).isSome = false := by rw [step_twice h]; simpa using hn
  have e1 : mput c.key c cW W = W ++ [(c.key, c, cW)] := by unfold mput; rw [h1]; rfl
  rw [e1]
  have h2 : kv (W ++ [(c.key, c, cW)]) = kv W ++ [(c.key, c)] := by simp [kv]
  rw [h2, h]
  simp [asked]
theorem mayL_false {p : Pfx} {l : List Ch} {c : Ch} (hc : c ∈ l) (h : goodC p c = false) : mayL p l = false := by
  unfold mayL
  have : l.all (goodC p) = false := by
    rw [List.all_eq_false]; exact ⟨c, hc, by simp [h]⟩
  simp [this]
theorem mayL_twice {p : Pfx} {l : List Ch} {k : Nat} (hk : k < l.length) (h : l[k].key ∈ (l.take k).map Ch.key) : mayL p l = false := by
  unfold mayL
  have : ¬ (l.map Ch.key).Nodup := by
    intro hn
    have e : l = l.take k ++ l[k] :: l.drop (k + 1) := by rw [List.getElem_cons_drop, List.take_append_drop]
    rw [e, List.map_append, List.map_cons, List.nodup_append] at hn
    exact hn.2.2 _ h _ (by simp) rfl
  simp [this]
theorem mayL_all {p : Pfx} {l : List Ch} (h1 : ∀ c ∈ l, goodC p c = true) (h2 : (l.map Ch.key).Nodup) : mayL p l = true := by
  unfold mayL
  simp only [Bool.and_eq_true, List.all_eq_true, decide_eq_true_eq]
  exact ⟨h1, h2⟩
theorem take_succ' {α : Type} {l : List α} {k : Nat} (hk : k < l.length) : l.take (k + 1) = l.take k ++ [l[k]] := by
  rw [List.take_succ_eq_append_getElem hk]
end Go.Hd
namespace Go.Hd
open Go Go.Sx
theorem chkN_ne (n : Nl) : (chkN n != 0) = !okN n := by unfold chkN; cases okN n <;> rfl
theorem chkA_ne (a : Atr) : (chkA a != 0) = !okA a := by unfold chkA; cases okA a <;> rfl
theorem goodC_mk (pf prd pad pln g f rd ad ln i lb og hd m) : goodC ⟨pf, prd, pad, pln⟩ ⟨g, ⟨⟨f, rd, ad, ln⟩, i, lb⟩, og, hd, m⟩ =
    (!g && !(!decide (f = pf) || (!decide (rd = prd) || (!decide (ad = pad) || !decide (ln = pln)))) && !(chkN ⟨⟨f, rd, ad, ln⟩, i, lb⟩ != 0) && !(chkA ⟨og, hd, m⟩ != 0)) := by
  rw [chkN_ne, chkA_ne, Bool.not_not, Bool.not_not]
  unfold goodC
  congr 3
  rw [Bool.eq_iff_iff]
  simp
end Go.Hd
namespace Go.Hd
open Go Go.Sx
theorem good_succ {p : Pfx} {l t : List Ch} {x : Ch} {k : Nat} (hk : l.take (k + 1) = l.take k ++ [x]) (h : ∀ c ∈ l.take k, goodC p c = true) (hx : goodC p x = true) : ∀ c ∈ l.take (k + 1), goodC p c = true := by
  rw [hk]; intro c hc
  rcases List.mem_append.1 hc with h1 | h1
  · exact h c h1
  · simp at h1; subst h1; exact hx
theorem nodup_succ {l : List Ch} {x : Ch} {k : Nat} (hk : l.take (k + 1) = l.take k ++ [x]) (h : ((l.take k).map Ch.key).Nodup) (hx : x.key ∉ (l.take k).map Ch.key) : ((l.take (k + 1)).map Ch.key).Nodup := by
  rw [hk, List.map_append, List.nodup_append]
  refine ⟨h, by simp, fun a ha b hb => ?_⟩
  simp at hb; subst hb; exact fun e => hx (e ▸ ha)
theorem flat_snoc (l : List Ch) (x : Ch) : ((l ++ [x]).map Ch.cells).flatten = (l.map Ch.cells).flatten ++ x.cells := by simp
/-! #### The second loop -/
def cntP (M : Tolds) (p : Pfx) (seen : List Nat) : Nat := (M.filter fun x => decide (x.2.2 ∈ seen) && decide (x.1.1 = p)).length
def delsS (M : Tolds) (p : Pfx) (l : List Ch) (seen : List Nat) : List Ch := (M.filter fun x => decide (x.2.2 ∈ seen) && toDel p l x).map fun e => goneOf e.2.1
theorem cntP_le (M : Tolds) (p : Pfx) (seen : List Nat) : cntP M p seen ≤ M.length := List.length_filter_le _ _
theorem delsS_le (M : Tolds) (p : Pfx) (l : List Ch) (seen : List Nat) : (delsS M p l seen).length ≤ M.length := by
  unfold delsS; rw [List.length_map]; exact List.length_filter_le _ _
section
variable {M : Tolds} {c : Nat} {seen : List Nat} {e : (Pfx × Int) × Ch × Nat} {p : Pfx} {l : List Ch}
theorem cntP_step (hwf : WF M c) (he : e ∈ M) (hn : e.2.2 ∉ seen) : cntP M p (seen ++ [e.2.2]) = cntP M p seen + if e.1.1 = p then 1 else 0 := by
  have := (met_step hwf he hn (fun x => decide (x.1.1 = p))).length_eq
  unfold cntP
  rw [this, List.length_append]
  congr 1
  split <;> rename_i h <;> split <;> simp_all
theorem delsS_step (hwf : WF M c) (he : e ∈ M) (hn : e.2.2 ∉ seen) : (delsS M p l (seen ++ [e.2.2])).Perm (delsS M p l seen ++ if toDel p l e then [goneOf e.2.1] else []) := by
  have := (met_step hwf he hn (toDel p l)).map (fun e => goneOf e.2.1)
  unfold delsS
  rw [List.map_append] at this
  refine this.trans (List.Perm.append_left _ ?_)
  split <;> simp_all
theorem cntP_all (h : ∀ e ∈ M, e.2.2 ∈ seen) : cntP M p seen = (M.filter fun x => decide (x.1.1 = p)).length := by
  unfold cntP; rw [met_all h]
theorem delsS_all (h : ∀ e ∈ M, e.2.2 ∈ seen) : delsS M p l seen = dels M p l := by
  unfold delsS dels; rw [met_all h]
theorem count_split : M.length - (M.filter fun x => decide (x.1.1 = p)).length = (M.filter fun x => !decide (x.1.1 = p)).length := by
  have : (M.filter fun x => decide (x.1.1 = p)).length + (M.filter fun x => !decide (x.1.1 = p)).length = M.length := by
    induction M with
    | nil => rfl
    | cons x M ih =>
      by_cases h : x.1.1 = p <;> simp [h] <;> omega
  omega
end
theorem kv_length (M : Tolds) : (kv M).length = M.length := by simp [kv]
theorem asked_length (l : List Ch) : (asked l).length = l.length := by simp [asked]
end Go.Hd

namespace Go.Hd
open Go Go.Sx
/-! #### The third loop -/
section
variable {M W : Tolds} {c : Nat} {seen : List Nat} {e : (Pfx × Int) × Ch × Nat} {p : Pfx} {l : List Ch}
theorem asked_facts (h : kv W = asked l) (hm : mayL p l = true) : ∀ e ∈ W, e.1 = e.2.1.key ∧ e.2.1.gone = false ∧ e.1.1 = p ∧ e.2.1 ∈ l := by
  intro e he
  have h1 : (e.1, e.2.1) ∈ kv W := List.mem_map.2 ⟨e, he, rfl⟩
  rw [h] at h1
  obtain ⟨x, hx, hxe⟩ := List.mem_map.1 h1
  simp only [Prod.mk.injEq] at hxe
  obtain ⟨hx1, hx2⟩ := hxe
  unfold mayL at hm
  simp only [Bool.and_eq_true, List.all_eq_true] at hm
  have hg := hm.1 x hx
  simp only [goodC, Bool.and_eq_true, Bool.not_eq_true', decide_eq_true_eq] at hg
  rw [← hx1, ← hx2]
  exact ⟨rfl, hg.1.1.1, hg.1.1.2, hx⟩
def addsS (M W : Tolds) (seen : List Nat) : List Ch := (W.filter fun x => decide (x.2.2 ∈ seen) && toAdd M x.2.1).map (·.2.1)
theorem addsS_le : (addsS M W seen).length ≤ W.length := by
  unfold addsS; rw [List.length_map]; exact List.length_filter_le _ _
theorem addsS_step (hwf : WF W c) (he : e ∈ W) (hn : e.2.2 ∉ seen) : (addsS M W (seen ++ [e.2.2])).Perm (addsS M W seen ++ if toAdd M e.2.1 then [e.2.1] else []) := by
  have := (met_step hwf he hn (fun x => toAdd M x.2.1)).map (·.2.1)
  unfold addsS
  rw [List.map_append] at this
  refine this.trans (List.Perm.append_left _ ?_)
  split <;> simp_all
theorem addsS_all (h : ∀ e ∈ W, e.2.2 ∈ seen) (hW : kv W = asked l) : addsS M W seen = l.filter (toAdd M) := by
  unfold addsS; rw [met_all h]
  have h1 : W.map (·.2.1) = l := by
    have := congrArg (List.map (·.2)) hW
    simpa [kv, asked, Function.comp_def] using this
  rw [← h1, List.filter_map]; rfl
theorem toAdd_none {x : Ch} (h : mget x.key M = none) : toAdd M x = true := by simp [toAdd, h]
theorem mget_some {k : Pfx × Int} {y : Ch} (h : mget k M = some y) : ∃ e ∈ M, e.1 = k ∧ e.2.1 = y := by
  unfold mget at h
  obtain ⟨e, he, rfl⟩ := Option.map_eq_some_iff.1 h
  exact ⟨e, List.mem_of_find?_eq_some he, by simpa using List.find?_some he, rfl⟩
theorem toAdd_some {x y : Ch} (h : mget x.key M = some y) (hT : ToldsOk M) (hx : x.gone = false) : toAdd M x = (!eqNB y.n x.n || !decide (y.a = x.a)) := by
  obtain ⟨e, he, _, rfl⟩ := mget_some h
  have hg := hT.live e he
  obtain ⟨k, y, b⟩ := e
  obtain ⟨g, n, a⟩ := y
  obtain ⟨g', n', a'⟩ := x
  simp only at hg hx
  subst hg; subst hx
  unfold toAdd eqNB
  rw [h, Bool.eq_iff_iff]
  simp

/-! #### The fourth loop -/
def goneKeys (l : List Ch) : List (Pfx × Int) := (l.filter (·.gone)).map Ch.key
def delK (M : Tolds) (l : List Ch) : Tolds := M.filter fun e => !decide (e.1 ∈ goneKeys l)
theorem delK_nil : delK M [] = M := by simp [delK, goneKeys]
theorem goneKeys_snoc (x : Ch) : goneKeys (l ++ [x]) = goneKeys l ++ if x.gone then [x.key] else [] := by
  unfold goneKeys
  rw [List.filter_append, List.map_append]
  cases h : x.gone <;> simp [h]
theorem delK_gone {x : Ch} (h : x.gone = true) : mdel x.key (delK M l) = delK M (l ++ [x]) := by
  unfold mdel delK
  rw [List.filter_filter, goneKeys_snoc, h]
  apply List.filter_congr
  intro e _
  rw [Bool.eq_iff_iff]
  simp only [Bool.and_eq_true, Bool.not_eq_true', beq_eq_false_iff_ne, decide_eq_false_iff_not, if_true, List.mem_append, List.mem_singleton, not_or]
  exact And.comm
theorem delK_kept {x : Ch} (h : x.gone = false) : delK M (l ++ [x]) = delK M l := by
  unfold delK; rw [goneKeys_snoc, h]; simp
theorem delK_len : (delK M l).length ≤ M.length := List.length_filter_le _ _

/-! #### The fifth loop -/
theorem kv_put {k : Pfx × Int} {v : Ch} (hwf : (M.map (·.1)).Nodup) : (kv (mput k v c M)).Perm ((kv M).filter (fun e => !decide (e.1 = k)) ++ [(k, v)]) := by
  have hno : ∀ L : Tolds, (∀ e ∈ L, e.1 ≠ k) → (kv L).filter (fun e => !decide (e.1 = k)) = kv L := by
    intro L hL
    rw [List.filter_eq_self]
    intro e he
    obtain ⟨x, hx, rfl⟩ := List.mem_map.1 he
    simpa using hL x hx
  by_cases hk : k ∈ M.map (·.1)
  · obtain ⟨e, he, rfl⟩ := List.mem_map.1 hk
    obtain ⟨A, B, rfl⟩ := List.append_of_mem he
    rw [List.map_append, List.map_cons, List.nodup_append] at hwf
    obtain ⟨_, h2, h3⟩ := hwf
    rw [List.nodup_cons] at h2
    have hA : ∀ x ∈ A, x.1 ≠ e.1 := fun x hx => h3 _ (List.mem_map.2 ⟨x, hx, rfl⟩) _ (by simp)
    have hB : ∀ x ∈ B, x.1 ≠ e.1 := fun x hx hh => h2.1 (List.mem_map.2 ⟨x, hx, hh⟩)
    have hm : (mget e.1 (A ++ e :: B)).isSome = true := by rw [mget_mem]; simp
    have e1 : mput e.1 v c (A ++ e :: B) = A ++ (e.1, v, e.2.2) :: B := by
      unfold mput; rw [hm, if_pos rfl, List.map_append, List.map_cons, if_pos rfl]
      congr 1
      · rw [List.map_congr_left (g := id) (fun x hx => by simp [hA x hx])]; simp
      · congr 1; rw [List.map_congr_left (g := id) (fun x hx => by simp [hB x hx])]; simp
    rw [e1]
    have e2 : kv (A ++ (e.1, v, e.2.2) :: B) = kv A ++ (e.1, v) :: kv B := by simp [kv]
    have e3 : kv (A ++ e :: B) = kv A ++ (e.1, e.2.1) :: kv B := by simp [kv]
    rw [e2, e3, List.filter_append, List.filter_cons, hno A hA, hno B hB]
    simp only [decide_true, Bool.not_true, Bool.false_eq_true, if_false, List.append_assoc]
    exact List.Perm.append_left _ (by simpa using List.perm_append_comm (l₁ := [(e.1, v)]))
  · have hm : (mget k M).isSome = false := by rw [mget_mem]; simpa using hk
    have e1 : mput k v c M = M ++ [(k, v, c)] := by unfold mput; rw [hm]; rfl
    rw [e1, hno M (fun e he hh => hk (hh ▸ List.mem_map.2 ⟨e, he, rfl⟩))]
    simp [kv]
def metK (W : Tolds) (seen : List Nat) : Tolds := W.filter fun x => decide (x.2.2 ∈ seen) && true
/-- What is told after some of the wanted ones are. -/
def addK (M W : Tolds) (seen : List Nat) : List ((Pfx × Int) × Ch) := (kv M).filter (fun e => !decide (e.1 ∈ (metK W seen).map (·.1))) ++ kv (metK W seen)
theorem addK_nil : addK M W [] = kv M := by
  have : metK W [] = [] := by simp [metK]
  simp [addK, this, kv]
theorem addK_step {M5 : Tolds} (hwf : WF W c) (he : e ∈ W) (hn : e.2.2 ∉ seen) (c5 : Nat) (h5 : WF M5 c5) (h : (kv M5).Perm (addK M W seen)) : (kv (mput e.1 e.2.1 c5 M5)).Perm (addK M W (seen ++ [e.2.2])) := by
  have hs : (metK W (seen ++ [e.2.2])).Perm (metK W seen ++ [e]) := by
    have := met_step hwf he hn (fun _ => true)
    simpa [metK] using this
  refine (kv_put h5.keys).trans ?_
  have hd : ∀ x ∈ kv (metK W seen), x.1 ≠ e.1 := by
    intro x hx
    obtain ⟨y, hy, rfl⟩ := List.mem_map.1 hx
    obtain ⟨hy1, hy2⟩ := List.mem_filter.1 hy
    intro hh
    have hin := hwf.keys
    have : y = e := by
      obtain ⟨A, B, rfl⟩ := List.append_of_mem he
      rw [List.map_append, List.map_cons, List.nodup_append] at hin
      rcases List.mem_append.1 hy1 with h1 | h1
      · exact absurd hh (hin.2.2 _ (List.mem_map.2 ⟨y, h1, rfl⟩) _ (by simp))
      · rcases List.mem_cons.1 h1 with h1 | h1
        · exact h1
        · exact absurd (List.mem_map.2 ⟨y, h1, hh⟩) (List.nodup_cons.1 hin.2.1).1
    subst this
    simp at hy2
    exact hn hy2
  have e1 : (kv M5).filter (fun x => !decide (x.1 = e.1)) |>.Perm ((addK M W seen).filter (fun x => !decide (x.1 = e.1))) := h.filter _
  refine (List.Perm.append_right _ e1).trans ?_
  unfold addK
  rw [List.filter_append, List.filter_filter, show List.filter (fun x => !decide (x.1 = e.1)) (kv (metK W seen)) = kv (metK W seen) from List.filter_eq_self.2 (fun x hx => by simpa using hd x hx), List.append_assoc]
  refine List.Perm.append ?_ ?_
  · rw [List.filter_congr (q := fun x => !decide (x.1 ∈ (metK W (seen ++ [e.2.2])).map (·.1)))]
    intro x _
    rw [Bool.eq_iff_iff]
    have hmem : ∀ k, k ∈ (metK W (seen ++ [e.2.2])).map (·.1) ↔ k ∈ (metK W seen).map (·.1) ∨ k = e.1 := by
      intro k
      rw [(hs.map (·.1)).mem_iff]; simp
    simp only [Bool.and_eq_true, Bool.not_eq_true', decide_eq_false_iff_not, hmem, not_or]
    exact And.comm
  · have := (hs.map fun e => (e.1, e.2.1)).symm
    simpa [kv] using this
theorem ToldsOk.put {M5 : Tolds} (h : ToldsOk M5) (hk : e.1 = e.2.1.key) (hg : e.2.1.gone = false) (c5 : Nat) : ToldsOk (mput e.1 e.2.1 c5 M5) := by
  have : ∀ x ∈ mput e.1 e.2.1 c5 M5, x.2.1.key = x.1 ∧ x.2.1.gone = false := by
    intro x hx
    unfold mput at hx
    split at hx
    · obtain ⟨y, hy, rfl⟩ := List.mem_map.1 hx
      split
      · rename_i h1; exact ⟨by simp [h1, hk], hg⟩
      · exact ⟨h.key y hy, h.live y hy⟩
    · rcases List.mem_append.1 hx with h1 | h1
      · exact ⟨h.key x h1, h.live x h1⟩
      · simp at h1; subst h1; exact ⟨hk.symm, hg⟩
  exact ⟨fun x hx => (this x hx).1, fun x hx => (this x hx).2⟩
theorem ToldsOk.del (h : ToldsOk M) : ToldsOk (delK M l) := ⟨fun e he => h.key e (List.mem_filter.1 he).1, fun e he => h.live e (List.mem_filter.1 he).1⟩
theorem metK_all (h : ∀ e ∈ W, e.2.2 ∈ seen) : metK W seen = W := by
  unfold metK; rw [met_all h]; simp
/-- In the end: what is told of other prefixes, and what is wanted. -/
theorem addK_all (h : ∀ e ∈ W, e.2.2 ∈ seen) (hW : kv W = asked l) (hm : mayL p l = true) (hT : ToldsOk M) {out : List Ch} (ho : out.Perm (outOf M p l)) :
    addK (delK M out) W seen = (kv M).filter (fun e => !decide (e.1.1 = p)) ++ asked l := by
  unfold addK
  rw [metK_all h, hW]
  congr 1
  have hk : W.map (·.1) = l.map Ch.key := by rw [← kv_keys, hW, asked_keys]
  rw [hk]
  have hf : kv (delK M out) = (kv M).filter fun e => !decide (e.1 ∈ goneKeys out) := by
    unfold kv delK; rw [List.filter_map]; rfl
  rw [hf, List.filter_filter]
  apply List.filter_congr
  intro e he
  obtain ⟨x, hx, rfl⟩ := List.mem_map.1 he
  have hmm := hm
  unfold mayL at hmm
  simp only [Bool.and_eq_true, List.all_eq_true] at hmm
  have hlp : ∀ c ∈ l, c.n.p = p ∧ c.gone = false := fun c hc => by
    have hg := hmm.1 c hc
    simp only [goodC, Bool.and_eq_true, Bool.not_eq_true', decide_eq_true_eq] at hg
    exact ⟨hg.1.1.2, hg.1.1.1⟩
  have hgk : ∀ k, k ∈ goneKeys out ↔ ∃ e ∈ M, toDel p l e = true ∧ e.1 = k := by
    intro k
    unfold goneKeys
    rw [((ho.filter _).map _).mem_iff]
    unfold outOf dels
    simp only [List.filter_append, List.map_append, List.mem_append, List.mem_map, List.mem_filter]
    constructor
    · rintro (⟨c, ⟨⟨e, ⟨he, ht⟩, rfl⟩, _⟩, rfl⟩ | ⟨c, ⟨⟨hc, _⟩, hg⟩, rfl⟩)
      · exact ⟨e, he, ht, by rw [goneOf_key, hT.key e he]⟩
      · rw [(hlp c hc).2] at hg; cases hg
    · rintro ⟨e, he, ht, rfl⟩
      exact .inl ⟨goneOf e.2.1, ⟨⟨e, ⟨he, ht⟩, rfl⟩, rfl⟩, by rw [goneOf_key, hT.key e he]⟩
  rw [Bool.eq_iff_iff]
  simp only [Bool.and_eq_true, Bool.not_eq_true', decide_eq_false_iff_not, hgk]
  constructor
  · rintro ⟨h1, h2⟩ h3
    exact h2 ⟨x, hx, by simp only [toDel, Bool.and_eq_true, decide_eq_true_eq, Bool.not_eq_true', decide_eq_false_iff_not]; exact ⟨h3, h1⟩, rfl⟩
  · intro h1
    refine ⟨fun h2 => ?_, ?_⟩
    · obtain ⟨c, hc, hck⟩ := List.mem_map.1 h2
      exact h1 (by rw [← hck]; exact (hlp c hc).1)
    · rintro ⟨e, _, ht, hek⟩
      simp only [toDel, Bool.and_eq_true, decide_eq_true_eq] at ht
      exact h1 (by rw [← hek]; exact ht.1)
end
end Go.Hd
namespace Go.Hd
open Go Go.Sx
section
variable {M W : Tolds} {e : (Pfx × Int) × Ch × Nat} {p : Pfx} {l : List Ch}
theorem toDel_ne (h : e.1.1 ≠ p) : toDel p l e = false := by simp [toDel, h]
theorem toDel_in (h : e.1 ∈ l.map Ch.key) : toDel p l e = false := by simp only [toDel, decide_eq_true h]; simp
theorem toDel_yes (h : e.1.1 = p) (h2 : e.1 ∉ l.map Ch.key) : toDel p l e = true := by simp only [toDel, decide_eq_true h, decide_eq_false h2]; rfl
theorem cntP_nil : cntP M p [] = 0 := by
  have : (M.filter fun x => decide (x.2.2 ∈ ([] : List Nat)) && decide (x.1.1 = p)) = [] := by
    rw [List.filter_eq_nil_iff]; intro a _; simp
  unfold cntP; rw [this]; rfl
theorem delsS_nil : delsS M p l [] = [] := by
  have : (M.filter fun x => decide (x.2.2 ∈ ([] : List Nat)) && toDel p l x) = [] := by
    rw [List.filter_eq_nil_iff]; intro a _; simp
  unfold delsS; rw [this]; rfl
theorem addsS_nil : addsS M W [] = [] := by
  have : (W.filter fun x => decide (x.2.2 ∈ ([] : List Nat)) && toAdd M x.2.1) = [] := by
    rw [List.filter_eq_nil_iff]; intro a _; simp
  unfold addsS; rw [this]; rfl
end
end Go.Hd
namespace Go.Hd
open Go Go.Sx
theorem delK_wf {M : Tolds} {l : List Ch} {c : Nat} (h : WF M c) : WF (delK M l) c :=
  ⟨h.keys.sublist (List.Sublist.map _ List.filter_sublist), h.born.sublist (List.Sublist.map _ List.filter_sublist), fun e he => h.lt e ((List.mem_filter.1 he).1)⟩
end Go.Hd
