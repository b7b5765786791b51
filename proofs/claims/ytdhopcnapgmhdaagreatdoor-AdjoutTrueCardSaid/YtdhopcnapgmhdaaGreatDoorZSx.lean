/-
  Own lemmas for walks over memory: states, blocks, maps, rows (no program in sight but the rules).
-/
import Derived.WalkKit
import Derived.KernelRfl
import Derived.Deep.Draws
set_option linter.unusedSimpArgs false
set_option linter.unusedVariables false
set_option linter.unusedSectionVars false
namespace Go.Sx
open Go.RowKit

/-! ### 1. What has been turned -/
/-- Nothing old has turned, but blocks of 'F'; there may be new blocks; orders may have been drawn. -/
structure Mod (F : Nat → Prop) (w w' : World) : Prop where
  os : w'.os = w.os
  tape : w'.tape = w.tape
  output : w'.output = w.output
  size : w.heap.size ≤ w'.heap.size
  drawn : w.drawn ≤ w'.drawn
  block : ∀ k, k < w.heap.size → ¬ F k → w'.heap[k]? = w.heap[k]?

def Nil : Nat → Prop := fun _ => False

theorem Mod.refl (F : Nat → Prop) (w : World) : Mod F w w := ⟨rfl, rfl, rfl, Nat.le_refl _, Nat.le_refl _, fun _ _ _ => rfl⟩
theorem Mod.trans {F : Nat → Prop} {a b c : World} (h : Mod F a b) (k : Mod F b c) : Mod F a c :=
  ⟨k.os.trans h.os, k.tape.trans h.tape, k.output.trans h.output, Nat.le_trans h.size k.size, Nat.le_trans h.drawn k.drawn,
    fun i hi hf => (k.block i (Nat.lt_of_lt_of_le hi h.size) hf).trans (h.block i hi hf)⟩
theorem Mod.mono {F G : Nat → Prop} {w w' : World} (h : Mod F w w') (hg : ∀ k, k < w.heap.size → F k → G k) : Mod G w w' :=
  ⟨h.os, h.tape, h.output, h.size, h.drawn, fun k hk hn => h.block k hk fun hf => hn (hg k hk hf)⟩
theorem Mod.of_nil {F : Nat → Prop} {w w' : World} (h : Mod Nil w w') : Mod F w w' := h.mono fun _ _ hf => hf.elim
theorem Mod.below {w w' : World} (h : Mod Nil w w') : Below w.heap.size w w' := ⟨h.os, h.tape, h.output, h.size, fun k hk => h.block k hk id⟩
theorem Mod.of_below {w w' : World} (h : Below w.heap.size w w') (hd : w.drawn ≤ w'.drawn) : Mod Nil w w' := ⟨h.os, h.tape, h.output, h.size, hd, fun k hk _ => h.block k hk⟩
/-- The second step writes new blocks, and blocks of F. -/
theorem Mod.trans' {F G : Nat → Prop} {a b c : World} (h : Mod F a b) (k : Mod G b c) (hg : ∀ i, i < a.heap.size → G i → F i) : Mod F a c :=
  ⟨k.os.trans h.os, k.tape.trans h.tape, k.output.trans h.output, Nat.le_trans h.size k.size, Nat.le_trans h.drawn k.drawn,
    fun i hi hf => (k.block i (Nat.lt_of_lt_of_le hi h.size) fun hgi => hf (hg i hi hgi)).trans (h.block i hi hf)⟩
theorem Mod.drewN {F : Nat → Prop} {a b : World} (h : Mod F a b) (n : Nat) : Mod F a (b.drewN n) := ⟨h.os, h.tape, h.output, h.size, Nat.le_trans h.drawn (Nat.le_add_right _ _), h.block⟩
theorem Mod.drew {F : Nat → Prop} {a b : World} (h : Mod F a b) : Mod F a b.drew := ⟨h.os, h.tape, h.output, h.size, Nat.le_trans h.drawn (Nat.le_add_right _ _), h.block⟩
theorem heap_alloc (w : World) (o : Obj) : (w.alloc o).heap = w.heap.push o := rfl
theorem Mod.alloc {F : Nat → Prop} {a b : World} (h : Mod F a b) (o : Obj) : Mod F a (b.alloc o) :=
  ⟨h.os, h.tape, h.output, by rw [heap_alloc]; simp; exact Nat.le_succ_of_le h.size, h.drawn, fun k hk hf => by
    rw [heap_alloc, Array.getElem?_push, if_neg (by have := h.size; omega)]; exact h.block k hk hf⟩

/-- No operation takes an answer of the tape back. -/
theorem viewStore_drawn {P : Program} {w : World} {a : Addr} {u : TypeId} {k : Addr} {v : Value} {b : Bool} {r : World × List Addr} (h : w.viewStore P a u k v b = .ok r) : r.1.drawn = w.drawn := by
  unfold World.viewStore at h
  simp only [bind, Except.bind, pure, Except.pure, throw, throwThe, MonadExceptOf.throw] at h
  repeat' split at h
  all_goals first | (cases h; rfl) | cases h
theorem ask_drawn {α : Type} (k : Ask α) : ∀ w : World, w.drawn ≤ (w.ask k).2.drawn := by
  induction k with
  | done a => intro w; exact Nat.le_refl _
  | ask what range k ih =>
    intro w
    simp only [World.ask]
    split
    · exact ih _ w
    · exact Nat.le_trans (Nat.le_succ _) (ih _ { w with drawn := w.drawn + 1 })
theorem sys_drawn (w : World) (c : Sys) : w.drawn ≤ (w.sys c).2.drawn := by
  have h := ask_drawn (Kernel.perform c w.os) w
  unfold World.sys
  generalize w.ask (Kernel.perform c w.os) = r at *
  obtain ⟨⟨r, os⟩, w'⟩ := r
  cases r <;> first | exact h | exact Nat.le_refl _
def Result.world {α : Type} : Result α → World
  | .ok _ w => w
  | .halt _ w => w
theorem run_drawn {α : Type} {P : Program} (s : Sem α) : ∀ w : World, w.drawn ≤ (Result.world (s.run P w)).drawn := by
  induction s with
  | pure a => intro w; exact Nat.le_refl _
  | load m a k ih =>
    intro w
    simp only [Sem.run]
    split
    · exact ih _ w
    · split
      · exact ih _ w
      · exact Nat.le_refl _
  | store m a v k ih =>
    intro w
    have hgen : w.drawn ≤ (Result.world (match w.cell? a with
        | some _ => if w.frozen? a then Result.halt (.unsupported (.unsafePointer "a write to bytes that a string shares")) w else k.run P (w.setCell a v)
        | none => match w.farStore P a v (m == .atomic) with
          | .ok (w, _) => k.run P w
          | .error h => .halt h w)).drawn := by
      split
      · split
        · exact Nat.le_refl _
        · exact ih (w.setCell a v)
      · split
        · rename_i w2 l h
          have : w2.drawn = w.drawn := by
            unfold World.farStore at h
            split at h
            · split at h
              · rename_i r hr; cases h; exact viewStore_drawn hr
              · cases h
            · cases h
          rw [← this]; exact ih w2
        · exact Nat.le_refl _
    cases v <;> first | exact hgen | exact Nat.le_refl _
  | new o k ih => intro w; exact ih _ { w with heap := w.heap.push o }
  | shape r k ih => intro w; exact ih _ w
  | freeze a n k ih =>
    intro w
    have : (w.freeze a n).drawn = w.drawn := by unfold World.freeze; split <;> rfl
    rw [← this]; exact ih (w.freeze a n)
  | frozen a k ih => intro w; exact ih _ w
  | getObj r k ih =>
    intro w
    simp only [Sem.run]
    split
    · exact Nat.le_refl _
    · exact ih _ w
    · exact Nat.le_refl _
  | setObj r o k ih =>
    intro w
    simp only [Sem.run]
    split
    · exact Nat.le_refl _
    · exact ih { w with heap := w.heap.setIfInBounds r o }
    · exact Nat.le_refl _
  | choose q k ih =>
    intro w
    simp only [Sem.run]
    split
    · exact ih _ w
    · exact Nat.le_trans (Nat.le_succ _) (ih _ { w with drawn := w.drawn + 1 })
  | sys c k ih => intro w; exact Nat.le_trans (sys_drawn w c) (ih _ (w.sys c).2)
  | program k ih => intro w; exact ih _ w
  | mark m k ih => intro w; exact ih w
  | halt h => intro w; exact Nat.le_refl _
theorem ok_drawn {α : Type} {P : Program} {s : Sem α} {w w' : World} {a : α} (h : s.run P w = .ok a w') : w.drawn ≤ w'.drawn := by
  have := run_drawn (P := P) s w
  rw [h] at this
  exact this

/-! ### 2. Items: what lies in some blocks -/
structure It where
  fp : List Nat
  P : World → Prop
  loc : ∀ w w' : World, (∀ b ∈ fp, w'.heap[b]? = w.heap[b]?) → P w → P w'

/-- One block, known whole. -/
def blk (b : Nat) (o : Obj) : It := ⟨[b], fun w => w.heap[b]? = some o, fun _ _ h hp => (h b (by simp)).trans hp⟩

inductive Has : List It → It → Prop
  | head {x : It} {L : List It} : Has (x :: L) x
  | tail {x y : It} {L : List It} : Has L x → Has (y :: L) x
theorem Has.mem {L : List It} {x : It} (h : Has L x) : x ∈ L := by
  induction h with
  | head => simp
  | tail _ ih => simp [ih]

/-- One item in another's place. -/
inductive Upd : List It → It → It → List It → Prop
  | head {x y : It} {L : List It} : Upd (x :: L) x y (y :: L)
  | tail {x y z : It} {L L' : List It} : Upd L x y L' → Upd (z :: L) x y (z :: L')
/-- One item taken out. -/
inductive Out : List It → It → List It → Prop
  | head {x : It} {L : List It} : Out (x :: L) x L
  | tail {x z : It} {L L' : List It} : Out L x L' → Out (z :: L) x (z :: L')

/-- The state of a walk: what has turned since w0; what the own blocks hold. -/
structure St (F : Nat → Prop) (w0 w : World) (L : List It) : Prop where
  mod : Mod F w0 w
  sep : (L.flatMap It.fp).Nodup
  ok : ∀ x ∈ L, x.P w
  lt : ∀ x ∈ L, ∀ b ∈ x.fp, b < w.heap.size
  own : ∀ x ∈ L, ∀ b ∈ x.fp, b < w0.heap.size → F b

section
variable {F : Nat → Prop} {w0 w w' : World} {L L' : List It}

theorem St.init (F : Nat → Prop) (w : World) : St F w w [] := ⟨Mod.refl _ _, by simp, by simp, by simp, by simp⟩

theorem St.get {x : It} (S : St F w0 w L) (h : Has L x) : x.P w := S.ok x h.mem

theorem St.size (S : St F w0 w L) : w0.heap.size ≤ w.heap.size := S.mod.size

/-- A step that turns no block of L and no old one. -/
theorem St.step (S : St F w0 w L) (hm : Mod Nil w w') : St F w0 w' L :=
  ⟨S.mod.trans hm.of_nil, S.sep, fun x hx => x.loc w w' (fun b hb => hm.block b (S.lt x hx b hb) id) (S.ok x hx),
    fun x hx b hb => Nat.lt_of_lt_of_le (S.lt x hx b hb) hm.size, S.own⟩

/-- One item more, in new blocks. -/
theorem St.cons (S : St F w0 w L) (hm : Mod Nil w w') {x : It} (hx : x.P w') (hn : x.fp.Nodup) (hf : ∀ b ∈ x.fp, w.heap.size ≤ b ∧ b < w'.heap.size) : St F w0 w' (x :: L) := by
  have S' := S.step hm
  refine ⟨S'.mod, ?_, ?_, ?_, ?_⟩
  · rw [List.flatMap_cons, List.nodup_append]
    refine ⟨hn, S.sep, fun a ha b hb hab => ?_⟩
    subst hab
    obtain ⟨y, hy, hby⟩ := List.mem_flatMap.1 hb
    have := S.lt y hy a hby
    have := (hf a ha).1
    omega
  · intro y hy
    rcases List.mem_cons.1 hy with rfl | hy
    · exact hx
    · exact S'.ok y hy
  · intro y hy b hb
    rcases List.mem_cons.1 hy with rfl | hy
    · exact (hf b hb).2
    · exact S'.lt y hy b hb
  · intro y hy b hb hlt
    rcases List.mem_cons.1 hy with rfl | hy
    · have := (hf b hb).1
      have := S.size
      omega
    · exact S.own y hy b hb hlt

theorem get_alloc (w : World) (o : Obj) : (w.alloc o).heap[w.heap.size]? = some o := by rw [heap_alloc]; simp
theorem size_alloc (w : World) (o : Obj) : (w.alloc o).heap.size = w.heap.size + 1 := by rw [heap_alloc]; simp

theorem St.alloc (S : St F w0 w L) (o : Obj) : St F w0 (w.alloc o) (blk w.heap.size o :: L) :=
  S.cons ((Mod.refl _ _).alloc o) (get_alloc w o) (by simp [blk]) (by simp [blk])

theorem St.drewN (S : St F w0 w L) (n : Nat) : St F w0 (w.drewN n) L := S.step ((Mod.refl _ _).drewN n)
theorem St.drew (S : St F w0 w L) : St F w0 w.drew L := S.step ((Mod.refl _ _).drew)

theorem Upd.mem {x y : It} (h : Upd L x y L') : x ∈ L := by
  induction h with
  | head => simp
  | tail _ ih => simp [ih]
theorem Upd.mem' {x y : It} (h : Upd L x y L') : ∀ z ∈ L', z = y ∨ z ∈ L := by
  induction h with
  | head => intro z hz; rcases List.mem_cons.1 hz with rfl | hz <;> simp [*]
  | tail _ ih =>
    intro z hz
    rcases List.mem_cons.1 hz with rfl | hz
    · simp
    · rcases ih z hz with h | h <;> simp [h]
theorem Upd.flat {x y : It} (h : Upd L x y L') (hs : (L.flatMap It.fp).Nodup) : ∃ A B, L = A ++ x :: B ∧ L' = A ++ y :: B := by
  induction h with
  | head => exact ⟨[], _, rfl, rfl⟩
  | @tail x y z L L' _ ih =>
    rw [List.flatMap_cons, List.nodup_append] at hs
    obtain ⟨A, B, rfl, rfl⟩ := ih hs.2.1
    exact ⟨z :: A, B, rfl, rfl⟩

/-- An item is turned into another one, in its own blocks and in new ones. -/
theorem St.upd {x y : It} (S : St F w0 w L) (hu : Upd L x y L') (hm : Mod (· ∈ x.fp) w w') (hy : y.P w') (hn : y.fp.Nodup) (hf : ∀ b ∈ y.fp, b ∈ x.fp ∨ w.heap.size ≤ b ∧ b < w'.heap.size) :
    St F w0 w' L' := by
  obtain ⟨A, B, rfl, rfl⟩ := hu.flat S.sep
  have hsep := S.sep
  simp only [List.flatMap_append, List.flatMap_cons] at hsep
  have hx : x ∈ A ++ x :: B := by simp
  have hAB : ∀ z, z ∈ A ∨ z ∈ B → ∀ b ∈ z.fp, b ∉ x.fp := by
    intro z hz b hb hbx
    rw [List.nodup_append] at hsep
    obtain ⟨_, h2, h3⟩ := hsep
    rcases hz with hz | hz
    · exact h3 b (List.mem_flatMap.2 ⟨z, hz, hb⟩) b (List.mem_append.2 (.inl hbx)) rfl
    · rw [List.nodup_append] at h2
      exact h2.2.2 b hbx b (List.mem_flatMap.2 ⟨z, hz, hb⟩) rfl
  have hlt : ∀ z, z ∈ A ∨ z ∈ B → ∀ b ∈ z.fp, b < w.heap.size := fun z hz b hb => S.lt z (by rcases hz with h | h <;> simp [h]) b hb
  refine ⟨S.mod.trans' hm fun i hi hix => S.own x hx i hix hi, ?_, ?_, ?_, ?_⟩
  · have hdis : ∀ z, z ∈ A ∨ z ∈ B → ∀ b ∈ z.fp, b ∉ y.fp := by
      intro z hz b hb hby
      rcases hf b hby with h | h
      · exact hAB z hz b hb h
      · have := hlt z hz b hb; omega
    simp only [List.flatMap_append, List.flatMap_cons]
    rw [List.nodup_append] at hsep ⊢
    obtain ⟨h1, h2, h3⟩ := hsep
    rw [List.nodup_append] at h2 ⊢
    refine ⟨h1, ⟨hn, h2.2.1, ?_⟩, ?_⟩
    · intro a ha b hb hab
      subst hab
      obtain ⟨z, hz, hbz⟩ := List.mem_flatMap.1 hb
      exact hdis z (.inr hz) a hbz ha
    · intro a ha b hb hab
      subst hab
      rcases List.mem_append.1 hb with hb | hb
      · obtain ⟨z, hz, hbz⟩ := List.mem_flatMap.1 ha
        exact hdis z (.inl hz) a hbz hb
      · exact h3 a ha a (List.mem_append.2 (.inr hb)) rfl
  · intro z hz
    have hz' : z = y ∨ (z ∈ A ∨ z ∈ B) := by
      rcases List.mem_append.1 hz with h | h
      · exact .inr (.inl h)
      · rcases List.mem_cons.1 h with h | h
        · exact .inl h
        · exact .inr (.inr h)
    rcases hz' with rfl | hz'
    · exact hy
    · exact z.loc w w' (fun b hb => hm.block b (hlt z hz' b hb) (hAB z hz' b hb)) (S.ok z (by rcases hz' with h | h <;> simp [h]))
  · intro z hz b hb
    rcases List.mem_append.1 hz with h | h
    · exact Nat.lt_of_lt_of_le (hlt z (.inl h) b hb) hm.size
    · rcases List.mem_cons.1 h with rfl | h
      · rcases hf b hb with h | h
        · exact Nat.lt_of_lt_of_le (S.lt x hx b h) hm.size
        · exact h.2
      · exact Nat.lt_of_lt_of_le (hlt z (.inr h) b hb) hm.size
  · intro z hz b hb hb0
    rcases List.mem_append.1 hz with h | h
    · exact S.own z (by simp [h]) b hb hb0
    · rcases List.mem_cons.1 h with rfl | h
      · rcases hf b hb with h | h
        · exact S.own x hx b h hb0
        · have := S.size; omega
      · exact S.own z (by simp [h]) b hb hb0

theorem flat_sub {L' L : List It} (h : L'.Sublist L) : (L'.flatMap It.fp).Sublist (L.flatMap It.fp) := by
  induction h with
  | slnil => exact List.Sublist.slnil
  | cons a _ ih => rw [List.flatMap_cons]; exact ih.trans (List.sublist_append_right _ _)
  | cons_cons a _ ih => rw [List.flatMap_cons, List.flatMap_cons]; exact (List.Sublist.refl _).append ih
/-- Some items are left out. -/
theorem St.sub (S : St F w0 w L) (h : L'.Sublist L) : St F w0 w L' :=
  ⟨S.mod, S.sep.sublist (flat_sub h), fun x hx => S.ok x (h.subset hx), fun x hx => S.lt x (h.subset hx), fun x hx => S.own x (h.subset hx)⟩

theorem St.perm (S : St F w0 w L) (h : L.Perm L') : St F w0 w L' :=
  ⟨S.mod, (h.flatMap_right _).nodup_iff.1 S.sep, fun x hx => S.ok x (h.mem_iff.2 hx), fun x hx => S.lt x (h.mem_iff.2 hx), fun x hx => S.own x (h.mem_iff.2 hx)⟩
theorem Out.perm {x : It} {L L' : List It} (h : Out L x L') : L.Perm (x :: L') := by
  induction h with
  | head => exact List.Perm.refl _
  | tail _ ih => exact (List.Perm.cons _ ih).trans (List.Perm.swap _ _ _)
/-- An item is taken out, turned, and laid ahead. -/
theorem St.turn {x y : It} (S : St F w0 w L) (ho : Out L x L') (hm : Mod (· ∈ x.fp) w w') (hy : y.P w') (hn : y.fp.Nodup) (hf : ∀ b ∈ y.fp, b ∈ x.fp ∨ w.heap.size ≤ b ∧ b < w'.heap.size) :
    St F w0 w' (y :: L') := (S.perm ho.perm).upd .head hm hy hn hf
theorem St.out {x : It} (S : St F w0 w L) (ho : Out L x L') : x.P w := S.ok x (ho.perm.mem_iff.2 (by simp))

/-- An old block that F spares. -/
theorem St.old (S : St F w0 w L) {b : Nat} {o : Obj} (h : w0.heap[b]? = some o) (hf : ¬ F b) : w.heap[b]? = some o := by
  rw [S.mod.block b (by
    rcases Nat.lt_or_ge b w0.heap.size with h' | h'
    · exact h'
    · simp [Array.getElem?_eq_none h'] at h) hf]
  exact h
end

/-! ### 3. A statement that draws its order -/
section
variable {P : Program} {ops : Array Oper} {Q : Exit → Act → World → Prop} {S : World → Prop}

def NoQ : Exit → Act → World → Prop := fun _ _ _ => False

/-- What an operation comes to: this value, and a world that meets S. -/
def Res (P : Program) (S : World → Prop) (dst : Option Tmp) (v : Value) (s : Sem Next) (w : World) : Prop :=
  match s.run P w with
  | .ok (.value u) w' => (dst = none ∨ u = v) ∧ S w'
  | .ok .skip w' => (dst = none ∨ undef = v) ∧ S w'
  | .ok (.enter f args) w' => Calls P f args w' fun
      | .returned u, w'' => (dst = none ∨ u = v) ∧ S w''
      | _, _ => False
  | .ok (.row row args) w' => Rows P row args w' fun u w'' => (dst = none ∨ u = v) ∧ S w''
  | _ => False

theorem put_same {a : Act} {dst : Option Tmp} {u v : Value} (h : dst = none ∨ u = v) : a.put dst u = a.put dst v := by
  rcases h with rfl | rfl <;> rfl

theorem put_inj {a : Act} {dst : Option Tmp} {u v : Value} (hd : ∀ d, dst = some d → d < a.tmps.size) (h : a.put dst u = a.put dst v) : dst = none ∨ u = v := by
  cases dst with
  | none => exact .inl rfl
  | some d =>
    refine .inr ?_
    have h1 := congrArg (fun b : Act => b.tmps[d]?) h
    have hlt := hd d rfl
    simpa [Act.put, hlt] using h1

theorem wp_of_res {o : Oper} {a : Act} {w : World} {v : Value} {K : Act → World → Prop} (h : Res P S o.dst v (execOp a.eval o) w)
    (hk : ∀ w', S w' → K (a.put o.dst v) w') : o.wp P a w K Q := by
  unfold Oper.wp
  unfold Res at h
  generalize (execOp a.eval o).run P w = r at *
  cases r with
  | ok n w' =>
    cases n <;> simp only [Oper.upon] at h ⊢
    case value u => rw [put_same h.1]; exact hk _ h.2
    case skip => rw [put_same h.1]; exact hk _ h.2
    case enter f args =>
      refine Calls.mono h fun e w'' he => ?_
      cases e with
      | returned u =>
        show K (a.put o.dst u) w''
        rw [put_same he.1]
        exact hk _ he.2
      | panicked c => exact (he : False).elim
      | outgrown => exact (he : False).elim
    case row row args => exact Rows.mono h fun u w'' he => by rw [put_same he.1]; exact hk _ he.2
  | halt x w' => exact h.elim

theorem res_of_wp {o : Oper} {a : Act} {w : World} {v : Value} (hd : ∀ d, o.dst = some d → d < a.tmps.size)
    (h : o.wp P a w (fun a' w' => a' = a.put o.dst v ∧ S w') NoQ) : Res P S o.dst v (execOp a.eval o) w := by
  unfold Oper.wp at h
  unfold Res
  generalize (execOp a.eval o).run P w = r at *
  cases r with
  | ok n w' =>
    cases n <;> simp only [Oper.upon] at h ⊢
    case value u => exact ⟨put_inj hd h.1, h.2⟩
    case skip => exact ⟨put_inj hd h.1, h.2⟩
    case defer d =>
      have h1 := congrArg Act.defers h.1
      cases ho : o.dst <;> simp [Act.put, ho] at h1
    case enter f args =>
      refine Calls.mono h fun e w'' he => ?_
      cases e with
      | returned u => exact ⟨put_inj hd he.1, he.2⟩
      | panicked c => exact (he : False).elim
      | outgrown => obtain ⟨_, _, h⟩ := he; exact (h : False).elim
    case row row args => exact Rows.mono h fun u w'' he => ⟨put_inj hd he.1, he.2⟩
  | halt x w' => cases x <;> simp only [Oper.upon] at h <;> exact (h : False).elim

/-- The statement's operations, in the order of the text, each in whatever world that meets S. -/
def HD (P : Program) (ops : Array Oper) (S : World → Prop) (fin : Act → Prop) : List Oper → Act → Prop
  | [], a => fin a
  | o :: rest, a =>
    if Region.wanted o (yielded ops a.tmps) then
      ∃ v, (∀ w, S w → Res P S o.dst v (execOp a.eval o) w) ∧ HD P ops S fin rest (a.put o.dst v)
    else HD P ops S fin rest (a.put o.dst undef)

/-- Whoever waits for none that is left may come first. -/
theorem HD_pull {fin : Act → Prop} {o : Oper} {R2 : List Oper} (hso : ∀ cs b, o.op ≠ .select cs b) : ∀ (R1 : List Oper) (a : Act),
    (∀ x ∈ R1, x.apart ops o = true ∧ ∀ cs b, x.op ≠ .select cs b) → HD P ops S fin (R1 ++ o :: R2) a →
    if Region.wanted o (yielded ops a.tmps) then
      ∃ v, (∀ w, S w → Res P S o.dst v (execOp a.eval o) w) ∧ HD P ops S fin (R1 ++ R2) (a.put o.dst v)
    else HD P ops S fin (R1 ++ R2) (a.put o.dst undef) := by
  intro R1
  induction R1 with
  | nil => intro a _ h; exact h
  | cons x R1 ih =>
    intro a hx h
    obtain ⟨hap, hsx⟩ := hx x (by simp)
    obtain ⟨h1, h2, h3⟩ := Oper.apart_spec hap
    simp only [List.cons_append, HD] at h
    have key : ∀ ux : Value, HD P ops S fin (R1 ++ o :: R2) (a.put x.dst ux) →
        (∀ u, HD P ops S fin (R1 ++ R2) ((a.put x.dst ux).put o.dst u) → HD P ops S fin ((x :: R1) ++ R2) (a.put o.dst u)) →
        if Region.wanted o (yielded ops a.tmps) then
          ∃ v, (∀ w, S w → Res P S o.dst v (execOp a.eval o) w) ∧ HD P ops S fin ((x :: R1) ++ R2) (a.put o.dst v)
        else HD P ops S fin ((x :: R1) ++ R2) (a.put o.dst undef) := by
      intro ux hux hback
      have hi := ih (a.put x.dst ux) (fun y hy => hx y (by simp [hy])) hux
      rw [wanted_put o a x.dst ux h1] at hi
      split
      · rename_i hw
        rw [if_pos hw] at hi
        obtain ⟨v, hr, hrest⟩ := hi
        rw [execOp_put o hso a x.dst ux h1] at hr
        exact ⟨v, hr, hback v hrest⟩
      · rename_i hw
        rw [if_neg hw] at hi
        exact hback undef hi
    by_cases hw : Region.wanted x (yielded ops a.tmps) = true
    · rw [if_pos hw] at h
      obtain ⟨vx, hrx, hrest⟩ := h
      refine key vx hrest fun u hu => ?_
      simp only [List.cons_append, HD]
      rw [wanted_put x a o.dst u h3, if_pos hw, execOp_put x hsx a o.dst u h3]
      exact ⟨vx, hrx, by rw [← Act.put_comm a vx u h2]; exact hu⟩
    · rw [if_neg hw] at h
      refine key undef h fun u hu => ?_
      simp only [List.cons_append, HD]
      rw [wanted_put x a o.dst u h3, if_neg hw, ← Act.put_comm a undef u h2]
      exact hu

/-! #### The order of the operations -/
def regOk (ops : Array Oper) (m : Nat) : Bool :=
  (List.range ops.size).all fun i =>
    ((ops.getD i default).after.all fun e => !Region.binds .any e || decide (e.on < i)) &&
    (match (ops.getD i default).op with | .select .. => false | _ => true) &&
    (List.range i).all fun j => ((Region.before ops).getD i 0).testBit j || (decide (i < m) && (ops.getD j default).apart ops (ops.getD i default))

def step1 (acc : Array Nat) (o : Oper) : Nat := o.after.foldl (fun s e => if Region.binds .any e then s ||| 2 ^ e.on ||| acc.getD e.on 0 else s) 0

theorem step1_spec (acc : Array Nat) (o : Oper) (j : Nat) (h : (step1 acc o).testBit j = true) :
    ∃ e ∈ o.after, Region.binds .any e = true ∧ (e.on = j ∨ (e.on < acc.size ∧ (acc.getD e.on 0).testBit j = true)) := by
  unfold step1 at h
  rw [← Array.foldl_toList] at h
  suffices H : ∀ (l : List Edge) (s : Nat), (l.foldl (fun s e => if Region.binds .any e then s ||| 2 ^ e.on ||| acc.getD e.on 0 else s) s).testBit j = true →
      s.testBit j = true ∨ ∃ e ∈ l, Region.binds .any e = true ∧ (e.on = j ∨ (e.on < acc.size ∧ (acc.getD e.on 0).testBit j = true)) by
    rcases H _ 0 h with h | ⟨e, he, h⟩
    · simp at h
    · exact ⟨e, by simpa using he, h⟩
  intro l
  induction l with
  | nil => intro s h; exact .inl h
  | cons e l ih =>
    intro s h
    rw [List.foldl_cons] at h
    rcases ih _ h with h | ⟨e', he', h⟩
    · split at h
      · rename_i hb
        simp only [Nat.testBit_or, Bool.or_eq_true] at h
        rcases h with (h | h) | h
        · exact .inl h
        · refine .inr ⟨e, by simp, hb, .inl ?_⟩
          rw [Nat.testBit_two_pow] at h
          simpa using h
        · refine .inr ⟨e, by simp, hb, .inr ⟨?_, h⟩⟩
          rcases Nat.lt_or_ge e.on acc.size with hlt | hge
          · exact hlt
          · simp [Array.getD, Nat.not_lt.2 hge] at h
      · exact .inl h
    · exact .inr ⟨e', by simp [he'], h⟩

theorem before_spec (ops : Array Oper) (i j : Nat) (h : ((Region.before ops).getD i 0).testBit j = true) :
    ∃ e ∈ (ops.getD i default).after, Region.binds .any e = true ∧ (e.on = j ∨ (e.on < i ∧ ((Region.before ops).getD e.on 0).testBit j = true)) := by
  have hb : Region.before ops = ops.toList.foldl (fun acc o => acc.push (step1 acc o)) #[] := by
    rw [Array.foldl_toList]; rfl
  suffices H : ∀ (l : List Oper) (acc : Array Nat), (∀ k o, l[k]? = some o → ops.getD (acc.size + k) default = o) →
      (∀ i j, (acc.getD i 0).testBit j = true → ∃ e ∈ (ops.getD i default).after, Region.binds .any e = true ∧ (e.on = j ∨ (e.on < i ∧ (acc.getD e.on 0).testBit j = true))) →
      ∀ i j, ((l.foldl (fun acc o => acc.push (step1 acc o)) acc).getD i 0).testBit j = true →
        ∃ e ∈ (ops.getD i default).after, Region.binds .any e = true ∧ (e.on = j ∨ (e.on < i ∧ ((l.foldl (fun acc o => acc.push (step1 acc o)) acc).getD e.on 0).testBit j = true)) by
    rw [hb] at h ⊢
    refine H ops.toList #[] (fun k o hk => ?_) (fun i j h => by simp at h) i j h
    have : ops[k]? = some o := by simpa using hk
    simp [this]
  intro l
  induction l with
  | nil => intro acc _ hacc i j h; exact hacc i j h
  | cons o l ih =>
    intro acc hl hacc i j h
    rw [List.foldl_cons] at h ⊢
    refine ih (acc.push (step1 acc o)) (fun k o' hk => ?_) ?_ i j h
    · have := hl (k + 1) o' (by simpa using hk)
      have e : (acc.push (step1 acc o)).size + k = acc.size + (k + 1) := by simp; omega
      rw [e]; exact this
    · intro i j h
      rcases Nat.lt_trichotomy i acc.size with hi | hi | hi
      · have e1 : (acc.push (step1 acc o)).getD i 0 = acc.getD i 0 := by simp [Array.getElem?_push, Nat.ne_of_lt hi]
        rw [e1] at h
        obtain ⟨e, he, hbd, hor⟩ := hacc i j h
        refine ⟨e, he, hbd, hor.imp id fun ⟨h1, h2⟩ => ⟨h1, ?_⟩⟩
        have e2 : (acc.push (step1 acc o)).getD e.on 0 = acc.getD e.on 0 := by simp [Array.getElem?_push, show e.on ≠ acc.size by omega]
        rw [e2]; exact h2
      · subst hi
        have e1 : (acc.push (step1 acc o)).getD acc.size 0 = step1 acc o := by simp
        rw [e1] at h
        obtain ⟨e, he, hbd, hor⟩ := step1_spec acc o j h
        have ho := hl 0 o (by simp)
        rw [Nat.add_zero] at ho
        rw [ho]
        refine ⟨e, he, hbd, hor.imp id fun ⟨h1, h2⟩ => ⟨h1, ?_⟩⟩
        have e2 : (acc.push (step1 acc o)).getD e.on 0 = acc.getD e.on 0 := by simp [Array.getElem?_push, show e.on ≠ acc.size by omega]
        rw [e2]; exact h2
      · have e1 : (acc.push (step1 acc o)).getD i 0 = 0 := by
          simp only [Array.getD_eq_getD_getElem?]
          rw [Array.getElem?_eq_none (by simp; omega)]; rfl
        rw [e1] at h; simp at h

/-- Whoever is listed has all listed for which it waits. -/
def DownOk (ops : Array Oper) (listed : Array Bool) : Prop :=
  ∀ i, listed.getD i false = true → ∀ e ∈ (ops.getD i default).after, Region.binds .any e = true → listed.getD e.on false = true

theorem down_anc {ops : Array Oper} {listed : Array Bool} (hd : DownOk ops listed) (j : Nat) : ∀ i, listed.getD i false = true → ((Region.before ops).getD i 0).testBit j = true → listed.getD j false = true := by
  intro i
  induction i using Nat.strongRecOn with
  | _ i ih =>
    intro hi h
    obtain ⟨e, he, hb, h | ⟨h1, h2⟩⟩ := before_spec ops i j h
    · subst h; exact hd i hi e he hb
    · exact ih e.on h1 (hd i hi e he hb) h2

theorem ready_anc {ops : Array Oper} {listed : Array Bool} (hd : DownOk ops listed) {i j : Nat} (hr : i ∈ Region.ready .any ops listed) (h : ((Region.before ops).getD i 0).testBit j = true) : listed.getD j false = true := by
  obtain ⟨_, o, ho, hall⟩ := mem_ready.1 hr
  have ho' : ops.getD i default = o := by simp [ho]
  obtain ⟨e, he, hb, h | ⟨h1, h2⟩⟩ := before_spec ops i j h
  · subst h; exact hall e (ho' ▸ he) hb
  · exact down_anc hd j e.on (hall e (ho' ▸ he) hb) h2


theorem regOk_spec {m : Nat} (h : regOk ops m = true) {i : Nat} (hi : i < ops.size) :
    (∀ e ∈ (ops.getD i default).after, Region.binds .any e = true → e.on < i) ∧ (∀ cs b, (ops.getD i default).op ≠ .select cs b) ∧
    ∀ j, j < i → ((Region.before ops).getD i 0).testBit j = true ∨ (i < m ∧ (ops.getD j default).apart ops (ops.getD i default) = true) := by
  have h := List.all_eq_true.1 h i (List.mem_range.2 hi)
  simp only [Bool.and_eq_true, List.all_eq_true, List.mem_range, Bool.or_eq_true, decide_eq_true_eq] at h
  obtain ⟨⟨h1, h2⟩, h3⟩ := h
  refine ⟨fun e he hb => ?_, fun cs b hs => ?_, fun j hj => ?_⟩
  · have := Array.all_eq_true_iff_forall_mem.1 h1 e he
    simpa [hb] using this
  · rw [hs] at h2; simp at h2
  · exact h3 j hj

theorem getD_listed {listed : Array Bool} {j : Nat} (hj : j < listed.size) : listed.getD j true = listed.getD j false := by simp [hj]

/-- The last operations, which wait for all others, in the order of the text. -/
theorem wpAny_tail {m : Nat} (hok : regOk ops m = true) : ∀ (d k : Nat) (listed : Array Bool) (a : Act) (w : World), m ≤ k → k + d = ops.size → listed.size = ops.size →
    (∀ j, j < ops.size → listed.getD j true = decide (j < k)) → wpList P ops Q (ops.toList.drop k) a w → wpAny P .any ops Q d listed a w := by
  intro d
  induction d with
  | zero =>
    intro k listed a w _ hk hsz hl h
    refine ⟨?_, by
      have : ops.toList.drop k = [] := List.drop_eq_nil_of_le (by simp; omega)
      rw [this] at h; exact h⟩
    apply List.eq_nil_iff_forall_not_mem.2
    intro i hi
    obtain ⟨h0, o, ho, _⟩ := mem_ready.1 hi
    have hlt : i < ops.size := (Array.getElem?_eq_some_iff.1 ho).1
    rw [hl i hlt] at h0
    simp at h0; omega
  | succ d ih =>
    intro k listed a w hmk hk hsz hl h
    have hkn : k < ops.size := by omega
    have hko : ops[k]? = some (ops.getD k default) := by simp [hkn]
    have hdown : DownOk ops listed := by
      intro i hi e he hb
      have hin : i < ops.size := by
        rcases Nat.lt_or_ge i ops.size with h' | h'
        · exact h'
        · rw [Array.getD_eq_getD_getElem?, Array.getElem?_eq_none (by omega)] at hi; simp at hi
      have hei := (regOk_spec hok hin).1 e he hb
      rw [← getD_listed (by omega), hl i hin] at hi
      rw [← getD_listed (by omega), hl e.on (by omega)]
      simp at hi ⊢; omega
    have hready : k ∈ Region.ready .any ops listed := by
      refine mem_ready.2 ⟨by rw [hl k hkn]; simp, _, hko, fun e he hb => ?_⟩
      have hei := (regOk_spec hok hkn).1 e he hb
      rw [← getD_listed (by omega), hl e.on (by omega)]
      simpa using hei
    refine ⟨fun h0 => (by rw [h0] at hready; cases hready), fun i hi => ?_⟩
    obtain ⟨h0, o, ho, _⟩ := mem_ready.1 hi
    have hin : i < ops.size := (Array.getElem?_eq_some_iff.1 ho).1
    have hge : k ≤ i := by
      rw [hl i hin] at h0; simp at h0; exact h0
    have hik : i = k := by
      rcases Nat.lt_or_ge k i with hlt | hle
      · rcases (regOk_spec hok hin).2.2 k hlt with ht | ht
        · have := ready_anc hdown hi ht
          rw [← getD_listed (by omega), hl k hkn] at this
          simp at this
        · omega
      · omega
    subst hik
    have hdrop : ops.toList.drop i = ops.getD i default :: ops.toList.drop (i + 1) := by
      rw [List.drop_eq_getElem_cons (by simpa using hin)]
      simp [hin]
    rw [hdrop] at h
    unfold wpOp
    rw [hko]
    have hrest : ∀ a w, wpList P ops Q (ops.toList.drop (i + 1)) a w → wpAny P .any ops Q d (listed.setIfInBounds i true) a w := fun a w h =>
      ih (i + 1) _ a w (by omega) (by omega) (by simpa using hsz) (fun j hj => by
        by_cases hij : i = j
        · subst hij; simp [hsz, hin]
        · rw [getD_set_ne true hij, hl j hj]; congr 1; apply propext; omega) h
    simp only [wpList] at h
    show if Region.wanted (ops.getD i default) (yielded ops a.tmps) then (ops.getD i default).wp P a w _ Q ∨ _ else _
    by_cases hw : Region.wanted (ops.getD i default) (yielded ops a.tmps) = true
    · rw [if_pos hw] at h ⊢
      exact h.imp (Oper.wp_mono hrest) id
    · rw [if_neg hw] at h ⊢
      exact hrest _ _ h

theorem wpAny_of_HD {m : Nat} (hok : regOk ops m = true) (hm : m ≤ ops.size) : ∀ (n : Nat) (R : List Nat) (listed : Array Bool) (a : Act) (w : World), R.length = n →
    listed.size = ops.size → DownOk ops listed → R.Pairwise (· < ·) → (∀ i, i ∈ R ↔ i < m ∧ listed.getD i true = false) → (∀ i, m ≤ i → i < ops.size → listed.getD i true = false) → S w →
    HD P ops S (fun a => ∀ w, S w → wpList P ops Q (ops.toList.drop m) a w) (R.map fun i => ops.getD i default) a → wpAny P .any ops Q (n + (ops.size - m)) listed a w := by
  intro n
  induction n with
  | zero =>
    intro R listed a w hn hsz hdown _ hR htail hS h
    have hR0 : R = [] := List.eq_nil_of_length_eq_zero hn
    subst hR0
    rw [Nat.zero_add]
    refine wpAny_tail hok _ m listed a w (Nat.le_refl _) (by omega) hsz (fun j hj => ?_) (h w hS)
    rcases Nat.lt_or_ge j m with hlt | hge
    · have := (hR j).2
      cases hj' : listed.getD j true with
      | true => simp [hlt]
      | false => exact absurd (this ⟨hlt, hj'⟩) (by simp)
    · rw [htail j hge hj]; simp; omega
  | succ n ih =>
    intro R listed a w hn hsz hdown hsort hR htail hS h
    rw [show n + 1 + (ops.size - m) = n + (ops.size - m) + 1 by omega]
    obtain ⟨r0, R', rfl⟩ : ∃ r0 R', R = r0 :: R' := by
      cases R with
      | nil => simp at hn
      | cons r R' => exact ⟨r, R', rfl⟩
    have hr0 := (hR r0).1 (by simp)
    have hr0n : r0 < ops.size := by omega
    have hready : r0 ∈ Region.ready .any ops listed := by
      refine mem_ready.2 ⟨hr0.2, ops.getD r0 default, by simp [hr0n], fun e he hb => ?_⟩
      have hei := (regOk_spec hok hr0n).1 e he hb
      rw [← getD_listed (by omega)]
      cases hj' : listed.getD e.on true with
      | true => rfl
      | false =>
        have hin := (hR e.on).2 ⟨by omega, hj'⟩
        rcases List.mem_cons.1 hin with h' | h'
        · omega
        · have := (List.pairwise_cons.1 hsort).1 e.on h'; omega
    refine ⟨fun h0 => (by rw [h0] at hready; cases hready), fun i hi => ?_⟩
    obtain ⟨h0, o, ho, _⟩ := mem_ready.1 hi
    have hin : i < ops.size := (Array.getElem?_eq_some_iff.1 ho).1
    have ho' : ops.getD i default = o := by simp [ho]
    have him : i < m := by
      rcases Nat.lt_or_ge i m with h' | h'
      · exact h'
      · rcases (regOk_spec hok hin).2.2 r0 (by omega) with ht | ht
        · have := ready_anc hdown hi ht
          rw [← getD_listed (by omega), hr0.2] at this
          cases this
        · omega
    have hiR : i ∈ r0 :: R' := (hR i).2 ⟨him, h0⟩
    obtain ⟨R1, R2, hsplit⟩ := List.append_of_mem hiR
    rw [hsplit] at h hsort hR hn
    rw [List.map_append, List.map_cons, ho'] at h
    have hso : ∀ cs b, o.op ≠ .select cs b := ho' ▸ (regOk_spec hok hin).2.1
    have hlt1 : ∀ x ∈ R1, x < i := fun x hx => (List.pairwise_append.1 hsort).2.2 x hx i (by simp)
    have hlt2 : ∀ x ∈ R2, i < x := fun x hx => (List.pairwise_cons.1 (List.pairwise_append.1 hsort).2.1).1 x hx
    have hp := HD_pull hso (R1.map fun i => ops.getD i default) a (fun y hy => by
      obtain ⟨x, hx, rfl⟩ := List.mem_map.1 hy
      have hxi := hlt1 x hx
      refine ⟨?_, (regOk_spec hok (by omega)).2.1⟩
      rcases (regOk_spec hok hin).2.2 x hxi with ht | ht
      · have := ready_anc hdown hi ht
        have hxu := ((hR x).1 (by simp [hx])).2
        rw [← getD_listed (by omega), hxu] at this
        cases this
      · rw [← ho']; exact ht.2) h
    have hnext : ∀ u w', S w' → HD P ops S (fun a => ∀ w, S w → wpList P ops Q (ops.toList.drop m) a w) ((R1.map fun i => ops.getD i default) ++ R2.map fun i => ops.getD i default) (a.put o.dst u) →
        wpAny P .any ops Q (n + (ops.size - m)) (listed.setIfInBounds i true) (a.put o.dst u) w' := by
      intro u w' hS' hh
      refine ih (R1 ++ R2) _ _ w' (by simp at hn ⊢; omega) (by simpa using hsz) ?_ ?_ ?_ ?_ hS' (by rw [List.map_append]; exact hh)
      · intro k hk e he hb
        by_cases hik : i = k
        · subst hik
          obtain ⟨_, o2, ho2, hall⟩ := mem_ready.1 hi
          have : ops.getD i default = o2 := by simp [ho2]
          exact getD_set_true (hall e (this ▸ he) hb)
        · rw [getD_set_ne false hik] at hk
          exact getD_set_true (hdown k hk e he hb)
      · have h1 := List.pairwise_append.1 hsort
        refine List.pairwise_append.2 ⟨h1.1, (List.pairwise_cons.1 h1.2.1).2, fun x hx y hy => h1.2.2 x hx y (by simp [hy])⟩
      · intro k
        by_cases hik : i = k
        · subst hik
          constructor
          · intro hk
            rcases List.mem_append.1 hk with hk | hk
            · have := hlt1 i hk; omega
            · have := hlt2 i hk; omega
          · rintro ⟨_, hk⟩
            simp [hsz, hin] at hk
        · rw [getD_set_ne true hik, ← hR k]
          simp [Ne.symm hik]
      · intro k hmk hk
        rw [getD_set_ne true (by omega)]
        exact htail k hmk hk
    unfold wpOp
    rw [ho]
    show if Region.wanted o (yielded ops a.tmps) then o.wp P a w _ Q ∨ _ else _
    by_cases hw : Region.wanted o (yielded ops a.tmps) = true
    · rw [if_pos hw] at hp ⊢
      obtain ⟨v, hr, hrest⟩ := hp
      exact .inl (wp_of_res (hr w hS) fun w' hS' => hnext v w' hS' hrest)
    · rw [if_neg hw] at hp ⊢
      exact hnext undef w hS hp

/-- A statement that draws its order: its first m operations in the order of the text, each in whatever world that meets S; the others, which wait for all before them, one behind the other. -/
theorem wp_region_HD {id : Nat} {a : Act} {w : World} (S : World → Prop) (m : Nat) (hm : P.follows .mixedOrders = true) (hok : (regOk ops m && decide (m ≤ ops.size)) = true) (hS : S w.drew)
    (h : HD P ops S (fun a => ∀ w, S w → wpList P ops Q (ops.toList.drop m) a w) (ops.toList.take m) a) : (Code.region id ops true).wp P Q a w := by
  rw [Bool.and_eq_true, decide_eq_true_eq] at hok
  refine wp_region_any hm ?_
  have h1 := wpAny_of_HD (P := P) (Q := Q) (S := S) hok.1 hok.2 m (List.range m) (Array.replicate ops.size false) a w.drew (by simp) (by simp) ?_ List.pairwise_lt_range ?_ ?_ hS ?_
  · rw [show m + (ops.size - m) = ops.size by omega] at h1
    exact h1
  · intro i hi
    rw [Array.getD_eq_getD_getElem?, Array.getElem?_replicate] at hi
    split at hi <;> simp at hi
  · intro i
    have := hok.2
    simp only [List.mem_range, Array.getD_eq_getD_getElem?, Array.getElem?_replicate]
    constructor
    · intro hi; exact ⟨hi, by rw [if_pos (by omega)]; rfl⟩
    · exact fun hi => hi.1
  · intro i _ hi
    simp [hi]
  · have : ops.toList.take m = (List.range m).map fun i => ops.getD i default := by
      apply List.ext_getElem?
      intro k
      rw [List.getElem?_take, List.getElem?_map]
      by_cases hk : k < m
      · rw [if_pos hk]
        have hkn : k < ops.size := by have := hok.2; omega
        simp [hk, hkn]
      · rw [if_neg hk]
        simp [Nat.not_lt.1 hk]
    rw [← this]
    exact h

end
end Go.Sx
