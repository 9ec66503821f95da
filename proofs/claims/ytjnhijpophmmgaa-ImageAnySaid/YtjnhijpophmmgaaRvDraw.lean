/- RvDraw: a region whose order is drawn, by a plan: what only yields is taken first, what turns the memory comes one at a time (or every way is gone). -/
import Derived.Test.YtjnhijpophmmgaaRvCode
set_option linter.unusedVariables false
set_option linter.unusedSimpArgs false
namespace Go.Proofs.Rv
open Go

/-- A plan: 'flo i': number i may be taken first; 'alt i p q': number i may come up, then p; or as q says; 'non': no other may come up; 'fin': all have come up. -/
inductive Plan where
  | fin | non
  | flo (i : Nat) (p : Plan)
  | alt (i : Nat) (p q : Plan)

def Plan.len : Plan → Nat
  | .fin | .non => 0
  | .flo _ p => p.len + 1
  | .alt _ p q => max (p.len + 1) q.len

def Plan.isAlt : Plan → Bool
  | .non => true
  | .alt _ _ _ => true
  | _ => false

/-- The same tests, over lists (the kernel reckons these fast). -/
def rdyL (ops : Array Oper) (listed : Array Bool) : List Nat :=
  (List.range ops.size).filter fun i => !listed.getD i true && ((ops[i]?).map (fun o => o.after.toList.all fun e => !Region.binds .any e || listed.getD e.on false)).getD false
theorem rdyL_eq (ops : Array Oper) (listed : Array Bool) : rdyL ops listed = Region.ready .any ops listed := by
  simp only [rdyL, Region.ready, Array.all_toList]
def freL (ops : Array Oper) (listed : Array Bool) (i : Nat) : Bool :=
  match ops[i]? with
  | none => false
  | some oi => (List.range ops.size).all fun j => Nat.beq j i || listed.getD j true || match ops[j]? with
      | some oj => oj.after.toList.any (fun e => Region.binds .any e && Nat.beq e.on i) || oi.apart ops oj
      | none => true
theorem freL_eq (ops : Array Oper) (listed : Array Bool) (i : Nat) : freL ops listed i = Region.free .any ops listed i := by
  have e : ∀ a b : Nat, Nat.beq a b = (a == b) := fun a b => by rw [Bool.eq_iff_iff]; simp
  simp only [freL, Region.free, Array.any_toList, e]
  rfl
def noSelL (ops : Array Oper) : Bool := ops.toList.all fun o => match o.op with | .select .. => false | _ => true
theorem noSelL_eq (ops : Array Oper) : noSelL ops = Region.noSelect ops := by
  simp only [noSelL, Region.noSelect, Array.all_toList]
  rfl

def Plan.ok (ops : Array Oper) : Plan → Array Bool → List Nat → Bool
  | .fin, listed, _ => (rdyL ops listed).isEmpty
  | .non, listed, cov => (rdyL ops listed).all (cov.contains ·) && !(rdyL ops listed).isEmpty
  | .flo i p, listed, _ => (rdyL ops listed).contains i && freL ops listed i && p.ok ops (listed.setIfInBounds i true) []
  | .alt i p q, listed, cov => q.isAlt && p.ok ops (listed.setIfInBounds i true) [] && q.ok ops listed (i :: cov)

/-- Is it ordered behind number 'i', by an edge of its own? -/
def dirE (o : Oper) (i : Nat) : Bool := o.after.toList.any fun e => Region.binds .any e && Nat.beq e.on i

def keepO (o : Oper) : List (Nat × Pl) → List Nat
  | [] => []
  | (i, .ob x) :: l => match dirE o i with
    | true => keepO o l
    | false => x :: keepO o l
  | _ :: l => keepO o l

def keepS (o : Oper) : List (Nat × Pl) → List Nat
  | [] => []
  | (i, .sl x) :: l => match dirE o i with
    | true => keepS o l
    | false => x :: keepS o l
  | _ :: l => keepS o l

/-- The objects of pending reads stay, and no slot of theirs is made anew. -/
def staysK0 (h : Heap) (dst : Option Nat) : List (Nat × Pl) → Prop → Prop
  | [], k => k
  | (_, .ob x) :: l, k => Rq (h x ≠ none) (staysK0 h dst l k)
  | (_, .sl t) :: l, k => match dst with
    | none => staysK0 h dst l k
    | some d => match Nat.beq d t with
      | true => False
      | false => staysK0 h dst l k
  | (_, .no) :: l, k => staysK0 h dst l k

def vcPlan0 (P : Program) (L : LE) (T : Nat → Prop) (h0 : Heap) (gl : Nat → Bool) (ops : List Oper) (K : St → Prop) : Plan → List (Nat × Pl) → St → Prop
  | .fin, _, s => K s
  | .non, _, _ => True
  | .flo i p, pend, s => nthK ops i fun o => guardK ops s o
      (fun s => match s with
        | ⟨tm, loc, hp⟩ => yld L ⟨tm, loc, hp⟩ o.op fun q => putK tm o.dst q fun tm' => vcPlan0 P L T h0 gl ops K p (match plOf ⟨tm, loc, hp⟩ o.op with | .no => pend | pl => (i, pl) :: pend) ⟨tm', loc, hp⟩)
      (fun s => match s with
        | ⟨tm, loc, hp⟩ => putK tm o.dst (.tup []) fun tm => vcPlan0 P L T h0 gl ops K p pend ⟨tm, loc, hp⟩)
  | .alt i p q, pend, s =>
      (nthK ops i fun o => guardK ops s o
        (fun s => opA P L T h0 gl (fun x => x ∈ keepO o pend) (fun x => x ∈ keepS o pend) s o fun s' => match s' with
          | ⟨tm, loc, hp⟩ => staysK0 hp o.dst pend (vcPlan0 P L T h0 gl ops K p pend ⟨tm, loc, hp⟩))
        (fun s => match s with
        | ⟨tm, loc, hp⟩ => putK tm o.dst (.tup []) fun tm => vcPlan0 P L T h0 gl ops K p pend ⟨tm, loc, hp⟩)) ∧
      match q with
      | .non => True
      | q => vcPlan0 P L T h0 gl ops K q pend s

noncomputable def staysK (h : Heap) (dst : Option Nat) (l : List (Nat × Pl)) : Prop → Prop :=
  List.rec (motive := fun _ => Prop → Prop) (fun k => k)
    (fun x _ ih k => match x with
      | (_, .ob x) => Rq (h x ≠ none) (ih k)
      | (_, .sl t) => match dst with
        | none => ih k
        | some d => match Nat.beq d t with
          | true => False
          | false => ih k
      | (_, .no) => ih k) l
theorem staysK_eq {h : Heap} {dst : Option Nat} : ∀ l, staysK h dst l = staysK0 h dst l
  | [] => by funext k; simp only [staysK0]; rfl
  | (i, .ob x) :: l => by funext k; simp only [staysK0]; rw [← staysK_eq l]; rfl
  | (i, .sl t) :: l => by funext k; simp only [staysK0]; rw [← staysK_eq l]; rfl
  | (i, .no) :: l => by funext k; simp only [staysK0]; rw [← staysK_eq l]; rfl

def pushP (k : List (Nat × Pl) → St → Prop) (i : Nat) (pl : Pl) (pend : List (Nat × Pl)) (st : St) : Prop :=
  match pl with
  | .no => k pend st
  | .sl t => k ((i, .sl t) :: pend) st
  | .ob x => k ((i, .ob x) :: pend) st
theorem pushP_eq {k : List (Nat × Pl) → St → Prop} {i : Nat} {pl : Pl} {pend : List (Nat × Pl)} {st : St} : pushP k i pl pend st = k (match pl with | .no => pend | pl => (i, pl) :: pend) st := by cases pl <;> rfl

/-- The same, by the recursor (so that the kernel meets the same terms). -/
noncomputable def vcPlan (P : Program) (L : LE) (T : Nat → Prop) (h0 : Heap) (gl : Nat → Bool) (ops : List Oper) (K : St → Prop) (plan : Plan) : List (Nat × Pl) → St → Prop :=
  Plan.rec (motive := fun _ => List (Nat × Pl) → St → Prop) (fun _ s => K s) (fun _ _ => True)
    (fun i _ ih pend s => nthK ops i fun o => guardK ops s o
      (fun s => match s with
        | ⟨tm, loc, hp⟩ => yld L ⟨tm, loc, hp⟩ o.op fun q => putK tm o.dst q fun tm' => pushP ih i (plOf ⟨tm, loc, hp⟩ o.op) pend ⟨tm', loc, hp⟩)
      (fun s => match s with
        | ⟨tm, loc, hp⟩ => putK tm o.dst (.tup []) fun tm => ih pend ⟨tm, loc, hp⟩))
    (fun i _ q ih1 ih2 pend s => match q with
      | .non => nthK ops i fun o => guardK ops s o
        (fun s => opA P L T h0 gl (fun x => x ∈ keepO o pend) (fun x => x ∈ keepS o pend) s o fun s' => match s' with
          | ⟨tm, loc, hp⟩ => staysK hp o.dst pend (ih1 pend ⟨tm, loc, hp⟩))
        (fun s => match s with
        | ⟨tm, loc, hp⟩ => putK tm o.dst (.tup []) fun tm => ih1 pend ⟨tm, loc, hp⟩)
      | _ => (nthK ops i fun o => guardK ops s o
        (fun s => opA P L T h0 gl (fun x => x ∈ keepO o pend) (fun x => x ∈ keepS o pend) s o fun s' => match s' with
          | ⟨tm, loc, hp⟩ => staysK hp o.dst pend (ih1 pend ⟨tm, loc, hp⟩))
        (fun s => match s with
        | ⟨tm, loc, hp⟩ => putK tm o.dst (.tup []) fun tm => ih1 pend ⟨tm, loc, hp⟩)) ∧ ih2 pend s) plan
theorem vcPlan0_alt {P : Program} {L : LE} {T : Nat → Prop} {h0 : Heap} {gl : Nat → Bool} {ops : List Oper} {K : St → Prop} (i : Nat) (p q : Plan) (hq : q ≠ .non) (pend : List (Nat × Pl)) (s : St) : vcPlan0 P L T h0 gl ops K (.alt i p q) pend s =
    ((nthK ops i fun o => guardK ops s o
        (fun s => opA P L T h0 gl (fun x => x ∈ keepO o pend) (fun x => x ∈ keepS o pend) s o fun s' => match s' with
          | ⟨tm, loc, hp⟩ => staysK0 hp o.dst pend (vcPlan0 P L T h0 gl ops K p pend ⟨tm, loc, hp⟩))
        (fun s => match s with
        | ⟨tm, loc, hp⟩ => putK tm o.dst (.tup []) fun tm => vcPlan0 P L T h0 gl ops K p pend ⟨tm, loc, hp⟩)) ∧ vcPlan0 P L T h0 gl ops K q pend s) := by
  cases q with
  | non => exact absurd rfl hq
  | fin => rfl
  | flo => rfl
  | alt => rfl
theorem vcPlan_alt {P : Program} {L : LE} {T : Nat → Prop} {h0 : Heap} {gl : Nat → Bool} {ops : List Oper} {K : St → Prop} (i : Nat) (p q : Plan) (hq : q ≠ .non) (pend : List (Nat × Pl)) (s : St) : vcPlan P L T h0 gl ops K (.alt i p q) pend s =
    ((nthK ops i fun o => guardK ops s o
        (fun s => opA P L T h0 gl (fun x => x ∈ keepO o pend) (fun x => x ∈ keepS o pend) s o fun s' => match s' with
          | ⟨tm, loc, hp⟩ => staysK hp o.dst pend (vcPlan P L T h0 gl ops K p pend ⟨tm, loc, hp⟩))
        (fun s => match s with
        | ⟨tm, loc, hp⟩ => putK tm o.dst (.tup []) fun tm => vcPlan P L T h0 gl ops K p pend ⟨tm, loc, hp⟩)) ∧ vcPlan P L T h0 gl ops K q pend s) := by
  cases q with
  | non => exact absurd rfl hq
  | fin => rfl
  | flo => rfl
  | alt => rfl
theorem vcPlan_eq {P : Program} {L : LE} {T : Nat → Prop} {h0 : Heap} {gl : Nat → Bool} {ops : List Oper} {K : St → Prop} (plan : Plan) : vcPlan P L T h0 gl ops K plan = vcPlan0 P L T h0 gl ops K plan := by
  induction plan with
  | fin => funext pend s; simp only [vcPlan0]; rfl
  | non => funext pend s; simp only [vcPlan0]; rfl
  | flo i p ih =>
    funext pend s
    have e : vcPlan P L T h0 gl ops K (.flo i p) pend s = nthK ops i fun o => guardK ops s o
      (fun s => match s with
        | ⟨tm, loc, hp⟩ => yld L ⟨tm, loc, hp⟩ o.op fun q => putK tm o.dst q fun tm' => pushP (vcPlan P L T h0 gl ops K p) i (plOf ⟨tm, loc, hp⟩ o.op) pend ⟨tm', loc, hp⟩)
      (fun s => match s with
        | ⟨tm, loc, hp⟩ => putK tm o.dst (.tup []) fun tm => vcPlan P L T h0 gl ops K p pend ⟨tm, loc, hp⟩) := rfl
    rw [e]
    simp only [vcPlan0, pushP_eq, ih]
  | alt i p q ih1 ih2 =>
    funext pend s
    have hs : ∀ h dst, staysK h dst = staysK0 h dst := fun h dst => funext fun l => by rw [staysK_eq l]
    by_cases hq : q = .non
    · subst hq; simp only [vcPlan0, ← hs]; rw [← ih1, and_true]; rfl
    · rw [vcPlan_alt i p q hq, vcPlan0_alt i p q hq, ih2, ← ih1]; simp only [← hs]

section
variable {P : Program} {ops : Array Oper} {Q : Exit → Act → World → Prop}

/-- Whatever order is picked from here on; what pends stays: no operation that is not ordered behind it turns what it read. -/
def wpAnyP (P : Program) (ops : Array Oper) (Q : Exit → Act → World → Prop) : Nat → Array Bool → List (Nat × (World → Prop)) → Act → World → Prop
  | 0, listed, _, a, w => Region.ready .any ops listed = [] ∧ Q .normal a w
  | fuel + 1, listed, pend, a, w =>
    (Region.ready .any ops listed = [] → Q .normal a w) ∧
    ∀ j ∈ Region.ready .any ops listed, wpOp P ops Q j (fun a' w' =>
      (∀ p ∈ pend, (∀ oj, ops[j]? = some oj → dirE oj p.1 = false) → p.2 w → p.2 w') ∧ wpAnyP P ops Q fuel (listed.setIfInBounds j true) pend a' w') a w

theorem wpAny_of_pend : ∀ (fuel : Nat) (listed : Array Bool) (pend : List (Nat × (World → Prop))) (a : Act) (w : World), wpAnyP P ops Q fuel listed pend a w → wpAny P .any ops Q fuel listed a w
  | 0, _, _, _, _, h => h
  | fuel + 1, _, _, _, _, h => ⟨h.1, fun j hj => wpOp_mono (fun _ _ h' => wpAny_of_pend fuel _ _ _ _ h'.2) (h.2 j hj)⟩

theorem wpAnyP_mono : ∀ (fuel : Nat) (listed : Array Bool) (pend pend' : List (Nat × (World → Prop))) (a : Act) (w : World), (∀ p ∈ pend', p ∈ pend) → wpAnyP P ops Q fuel listed pend a w → wpAnyP P ops Q fuel listed pend' a w
  | 0, _, _, _, _, _, _, h => h
  | fuel + 1, _, _, _, _, _, hp, h => ⟨h.1, fun j hj => wpOp_mono (fun _ _ h' => ⟨fun p hm hd hw => h'.1 p (hp p hm) hd hw, wpAnyP_mono fuel _ _ _ _ _ hp h'.2⟩) (h.2 j hj)⟩

theorem dirE_false {o : Oper} {i : Nat} (h : ∀ e ∈ o.after, Region.binds .any e = true → e.on ≠ i) : dirE o i = false := by
  unfold dirE
  rw [List.any_eq_false]
  intro e he
  simp only [Bool.and_eq_true, not_and]
  intro hb
  have := h e (by simpa using he) hb
  simpa using this

/-- **An operation that yields may be taken first**, if what it reads stays. -/
theorem wpAnyP_first {i : Nat} {oi : Oper} {v : Value} {S : World → Prop} (hi : ops[i]? = some oi) (hsel : ∀ (j : Nat) (o : Oper) cs b, ops[j]? = some o → o.op ≠ .select cs b)
    (hQ : ∀ c a w, Q (.panic c) (a.put oi.dst v) w → Q (.panic c) a w) :
    ∀ (fuel : Nat) (listed : Array Bool) (pend : List (Nat × (World → Prop))) (a : Act) (w : World),
      (∀ j oj, ops[j]? = some oj → j ≠ i → listed.getD j true = false → (∀ e ∈ oj.after, Region.binds .any e = true → e.on ≠ i) → oi.apart ops oj = true) →
      i ∈ Region.ready .any ops listed → YieldsIf P ops S oi v a → S w →
      wpAnyP P ops Q fuel (listed.setIfInBounds i true) ((i, S) :: pend) (a.put oi.dst v) w → wpAnyP P ops Q (fuel + 1) listed pend a w := by
  intro fuel
  induction fuel with
  | zero =>
    intro listed pend a w _ hr hy hS H
    refine ⟨fun h => (by rw [h] at hr; cases hr), fun j hj => ?_⟩
    by_cases hji : j = i
    · subst hji; exact hy.wpOp hi hS ⟨fun _ _ _ h => h, H⟩
    · have := ready_mono hj hji
      rw [H.1] at this
      cases this
  | succ fuel ih =>
    intro listed pend a w hfree hr hy hS H
    refine ⟨fun h => (by rw [h] at hr; cases hr), fun j hj => ?_⟩
    by_cases hji : j = i
    · subst hji; exact hy.wpOp hi hS ⟨fun _ _ _ h => h, wpAnyP_mono _ _ _ _ _ _ (fun p hp => List.mem_cons_of_mem _ hp) H⟩
    · have h1 := H.2 j (ready_mono hj hji)
      obtain ⟨hjun, oj, hoj, hall⟩ := mem_ready.1 hj
      have hnot : ∀ e ∈ oj.after, Region.binds .any e = true → e.on ≠ i := fun e he hb heq => by
        have h1 := hall e he hb
        have h0 := (mem_ready.1 hr).1
        rw [heq] at h1
        rcases Nat.lt_or_ge i listed.size with h' | h'
        · simp [h'] at h0 h1; rw [h0] at h1; cases h1
        · simp [Array.getElem?_eq_none h'] at h1
      have h2 := wpOp_putIf hoj (hfree j oj hoj hji hjun hnot) (fun cs b => hsel i oi cs b hi) (fun cs b => hsel j oj cs b hoj) hQ hy h1
      have hfree' : ∀ k ok, ops[k]? = some ok → k ≠ i → (listed.setIfInBounds j true).getD k true = false →
          (∀ e ∈ ok.after, Region.binds .any e = true → e.on ≠ i) → oi.apart ops ok = true := fun k ok hk hki hun hno => by
        refine hfree k ok hk hki ?_ hno
        by_cases hjk : j = k
        · subst hjk; exact hjun
        · rw [getD_set_ne true hjk] at hun; exact hun
      have hd : ∀ oj', ops[j]? = some oj' → dirE oj' i = false := fun oj' h' => by
        rw [hoj] at h'; cases h'
        exact dirE_false hnot
      refine wpOp_mono (fun a' w' h3 => ?_) h2
      obtain ⟨hy', hp, hrec⟩ := h3
      have hS' : S w' := hp (i, S) (List.mem_cons_self ..) hd hS
      refine ⟨fun p hm => hp p (List.mem_cons_of_mem _ hm), ih (listed.setIfInBounds j true) pend a' w' hfree' (ready_mono hr (Ne.symm hji)) hy' hS' ?_⟩
      rw [Array.setIfInBounds_comm _ _ hji]
      exact hrec

theorem wpAnyP_done {listed : Array Bool} {pend : List (Nat × (World → Prop))} {a : Act} {w : World} (hr : Region.ready .any ops listed = []) (h : Q .normal a w) :
    ∀ fuel, wpAnyP P ops Q fuel listed pend a w
  | 0 => ⟨hr, h⟩
  | _ + 1 => ⟨fun _ => h, by rw [hr]; simp⟩
end

end Go.Proofs.Rv
