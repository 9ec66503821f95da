/- RvYld4: literals of structs; 'yld': all operations that leave the world as it is, with their law. -/
import Derived.Test.YtjnhijpophmmgaaRvYld3
set_option linter.unusedVariables false
set_option linter.unusedSimpArgs false
namespace Go.Proofs.Rv
open Go

def ovK : List FV → List FV → (List FV → Prop) → Prop
  | cs, [], k => k cs
  | _ :: cs, v :: vs, k => ovK cs vs fun ys => k (v :: ys)
  | [], _ :: _, _ => False

def setRK : List FV → Nat → List FV → (List FV → Prop) → Prop
  | cs, 0, vs, k => ovK cs vs k
  | x :: cs, off + 1, vs, k => setRK cs off vs fun ys => k (x :: ys)
  | [], _ + 1, _, _ => False

/-- 'vs' laid over 'cs' from 'off' on. -/
def over (cs : List FV) (off : Nat) (vs : List FV) : List FV := cs.take off ++ (vs ++ cs.drop (off + vs.length))

theorem ovK_ok : ∀ {vs cs : List FV} {k : List FV → Prop}, ovK cs vs k → vs.length ≤ cs.length ∧ k (vs ++ cs.drop vs.length)
  | [], cs, k, h => by cases cs <;> exact ⟨by simp, by simpa [ovK] using h⟩
  | v :: vs, [], k, h => h.elim
  | v :: vs, c :: cs, k, h => by
    obtain ⟨h1, h2⟩ := ovK_ok (vs := vs) (cs := cs) h
    exact ⟨by simp; omega, by simpa using h2⟩

theorem setRK_ok : ∀ {off : Nat} {cs vs : List FV} {k : List FV → Prop}, setRK cs off vs k → off + vs.length ≤ cs.length ∧ k (over cs off vs)
  | 0, cs, vs, k, h => by
    have h' : ovK cs vs k := by cases cs <;> exact h
    obtain ⟨h1, h2⟩ := ovK_ok h'
    exact ⟨by omega, by simpa [over] using h2⟩
  | off + 1, [], vs, k, h => h.elim
  | off + 1, c :: cs, vs, k, h => by
    obtain ⟨h1, h2⟩ := setRK_ok (off := off) (cs := cs) (vs := vs) h
    refine ⟨by simp; omega, ?_⟩
    have e : over (c :: cs) (off + 1) vs = c :: over cs off vs := by simp [over, Nat.add_right_comm]
    rw [e]; exact h2

/-- A value's cells. -/
def cellsK (x : AV) (k : List FV → Prop) : Prop :=
  match x with
  | .d x => k [x]
  | .tt => k [.bool true]
  | .ff => k [.bool false]
  | .agg xs => k xs
  | _ => False

section
variable {P : Program} {B0 N : Nat} {Z : Nat → Prop} {m : Nat → Option Blk} {ml : Nat → Option Nat} {w : World} {s : St} {a : Act}

/-- Cells and what they are. -/
def Row (N : Nat) (Z : Nat → Prop) (m : Nat → Option Blk) (w : World) (xs : List FV) (vs : Array Value) : Prop :=
  vs.size = xs.length ∧ ∀ (i : Nat) (x : FV) (v : Value), xs[i]? = some x → vs[i]? = some v → VF N Z m w x v

theorem cellsK_ok {x : AV} {v : Value} {k : List FV → Prop} (hx : VA N Z m ml w x v) (h : cellsK x k) : ∃ xs, k xs ∧ Row N Z m w xs v.cells := by
  unfold cellsK at h
  split at h
  · cases hx; rename_i x hx
    refine ⟨_, h, ?_⟩
    have hv : v.cells = #[v] := by
      have h1 := hx.oneCell
      cases v <;> first | rfl | (simp [Value.oneCell'] at h1; done)
    rw [hv]
    refine ⟨by simp, fun i y u h1 h2 => ?_⟩
    cases i with
    | zero => simp at h1 h2; subst h1 h2; exact hx
    | succ i => simp at h1
  · cases hx
    refine ⟨_, h, by simp [Value.cells], fun i y u h1 h2 => ?_⟩
    cases i with
    | zero => simp [Value.cells] at h1 h2; subst h1 h2; exact .bool _
    | succ i => simp at h1
  · cases hx
    refine ⟨_, h, by simp [Value.cells], fun i y u h1 h2 => ?_⟩
    cases i with
    | zero => simp [Value.cells] at h1 h2; subst h1 h2; exact .bool _
    | succ i => simp at h1
  · cases hx; rename_i vs hs hv
    exact ⟨_, h, hs, hv⟩
  · exact h.elim

theorem row_zero {L : LE} (hL : LayOK P L) {t : TypeId} {l : Lay} (hl : L t = some l) : ∃ z, (∀ w' : World, (zeroValue t).run P w' = .ok z w') ∧ Row N Z m w l.zero z.cells := by
  obtain ⟨i, z, h1, _, _, h2, h3⟩ := hL.info t l hl
  obtain ⟨h4, _⟩ := hL.zero t l hl
  refine ⟨z, fun w' => by simp [zeroValue, typeInfo, h1, h2], by rw [h3]; simp, fun i x v hx hv => ?_⟩
  rw [h3] at hv
  simp only [List.getElem?_toArray, List.getElem?_map, hx, Option.map_some, Option.some.injEq] at hv
  rw [← hv]
  exact VF.of_plain (by rw [List.all_eq_true] at h4; exact h4 x (List.mem_of_getElem? hx))

theorem foldl_set (cells : Array Value) (off : Nat) (vs : Array Value) (h : off + vs.size ≤ cells.size) :
    (vs.zipIdx.foldl (fun cs (c, j) => cs.setIfInBounds (off + j) c) cells) = (cells.toList.take off ++ (vs.toList ++ cells.toList.drop (off + vs.size))).toArray := by
  obtain ⟨l, rfl⟩ : ∃ l : List Value, vs = l.toArray := ⟨vs.toList, rfl⟩
  have key : ∀ (l : List Value) (n : Nat) (cells : Array Value), off + n + l.length ≤ cells.size →
      ((l.zipIdx n).foldl (fun (cs : Array Value) (x : Value × Nat) => cs.setIfInBounds (off + x.2) x.1) cells) = (cells.toList.take (off + n) ++ (l ++ cells.toList.drop (off + n + l.length))).toArray := by
    intro l
    induction l with
    | nil => intro n cells _; simp
    | cons v l ih =>
      intro n cells hle
      simp only [List.length_cons] at hle
      simp only [List.zipIdx_cons, List.foldl_cons]
      rw [ih (n + 1) _ (by simp; omega)]
      congr 1
      have hlt : off + n < cells.toList.length := by simp; omega
      simp only [Array.toList_setIfInBounds]
      rw [show off + (n + 1) = off + n + 1 from by omega, List.take_succ_eq_append_getElem (by simpa using hlt)]
      simp only [List.getElem_set_self, List.append_assoc, List.singleton_append, List.length_cons]
      rw [List.take_set_of_le (Nat.le_refl _), List.drop_set_of_lt (by omega)]
      simp [Nat.add_assoc, Nat.add_comm 1]
  have := key l 0 cells (by simpa using h)
  simpa using this

theorem Row.over {xs ys : List FV} {vs us : Array Value} (hx : Row N Z m w xs vs) (hy : Row N Z m w ys us) {off : Nat} (h : off + ys.length ≤ xs.length) :
    Row N Z m w (over xs off ys) (us.zipIdx.foldl (fun cs (c, j) => cs.setIfInBounds (off + j) c) vs) := by
  rw [foldl_set vs off us (by rw [hx.1, hy.1]; exact h)]
  unfold Rv.over
  constructor
  · simp [hx.1, hy.1]
  · intro i x v h1 h2
    simp only [List.getElem?_toArray] at h2
    rw [List.getElem?_append] at h1 h2
    have l1 : (xs.take off).length = off := by simp; omega
    have l2 : (vs.toList.take off).length = off := by have := hx.1; simp; omega
    rw [l1] at h1; rw [l2] at h2
    split at h1
    · rename_i hi
      rw [if_pos hi] at h2
      rw [List.getElem?_take_of_lt hi] at h1 h2
      exact hx.2 i x v h1 (by simpa using h2)
    · rename_i hi
      rw [if_neg hi] at h2
      rw [List.getElem?_append] at h1 h2
      have l3 : us.toList.length = ys.length := by simpa using hy.1
      rw [l3] at h2
      split at h1
      · rename_i hj
        rw [if_pos hj] at h2
        exact hy.2 _ x v h1 (by simpa using h2)
      · rename_i hj
        rw [if_neg hj] at h2
        rw [List.getElem?_drop] at h1 h2
        rw [hy.1] at h2
        exact hx.2 _ x v h1 (by simpa using h2)

end

/-- A struct's literal: its parts, one by one. -/
def fillK (L : LE) (tm : List AV) (fs : List (Nat × TypeId)) : List (Nat × Operand) → List FV → (List FV → Prop) → Prop
  | [], cs, k => k cs
  | (i, x) :: ps, cs, k => nthK fs i fun f => match L f.2 with
    | none => False
    | some lf => cellsK (evA tm x) fun vs => match Nat.beq vs.length lf.size with
      | true => setRK cs f.1 vs fun cs => fillK L tm fs ps cs k
      | false => False

def buildA (L : LE) (s : St) (t : Nat) (ps : List (Nat × Operand)) (k : AV → Prop) : Prop :=
  match L t with
  | none => False
  | some l => match l.d with
    | .st fs => fillK L s.tm fs ps l.zero fun cs => k (.agg cs)
    | _ => False

section
variable {P : Program} {B0 N : Nat} {Z : Nat → Prop} {m : Nat → Option Blk} {ml : Nat → Option Nat} {w : World} {s : St} {a : Act}

theorem fillK_ok {L : LE} (hL : LayOK P L) (r : RelT N Z m ml s.tm a w) {A : Array Field} {fs : List (Nat × TypeId)} (hA : A.toList.map (fun f => (f.offset, f.type)) = fs)
    (places : Array (Nat × Nat)) (hp : ∀ (i : Nat) (F : Field), A[i]? = some F → ∀ lf, L F.type = some lf → places[i]? = some (F.offset, lf.size)) :
    ∀ (ps : List (Nat × Operand)) (cs : List FV) (vs : Array Value) (k : List FV → Prop), Row N Z m w cs vs → fillK L s.tm fs ps cs k →
      ∃ cs' vs', k cs' ∧ Row N Z m w cs' vs' ∧ Instr.fill (places[·]?) vs (ps.map fun (i, x) => (i, a.eval x)) = some vs'
  | [], cs, vs, k, hr, h => ⟨cs, vs, h, hr, rfl⟩
  | (i, x) :: ps, cs, vs, k, hr, h => by
    simp only [fillK] at h
    obtain ⟨f, hf, h⟩ := nthK_ok h
    split at h
    · exact h.elim
    · rename_i lf hlf
      obtain ⟨ys, h, hy⟩ := cellsK_ok (r.ev x) h
      split at h
      · rename_i hlen
        have hlen' : ys.length = lf.size := by simpa using hlen
        obtain ⟨h1, h⟩ := setRK_ok h
        have hF : ∃ F, A[i]? = some F ∧ F.offset = f.1 ∧ F.type = f.2 := by
          rw [← hA, List.getElem?_map] at hf
          cases hq : A.toList[i]? with
          | none => rw [hq] at hf; cases hf
          | some F => rw [hq] at hf; simp at hf; exact ⟨F, by simpa using hq, by rw [← hf], by rw [← hf]⟩
        obtain ⟨F, hF1, hF2, hF3⟩ := hF
        have hpl := hp i F hF1 lf (by rw [hF3]; exact hlf)
        rw [hF2] at hpl
        obtain ⟨cs', vs', g1, g2, g3⟩ := fillK_ok hL r hA places hp ps _ _ k (hr.over hy h1) h
        refine ⟨cs', vs', g1, g2, ?_⟩
        simp only [List.map_cons, Instr.fill, hpl]
        have e1 : (a.eval x).cells.size = lf.size := by rw [hy.1, hlen']
        have e2 : ¬ (f.1 + (a.eval x).cells.size > vs.size) := by rw [hy.1, hr.1]; omega
        simp only [ne_eq, e1, not_true_eq_false, decide_false, Bool.false_or]
        rw [e1] at e2
        simp only [decide_eq_true_eq, e2, if_false]
        exact g3
      · exact h.elim

def plF (f : Field) : Sem (Nat × Nat) := do pure (f.offset, ← sizeOf f.type)

theorem mapM_places {L : LE} (hL : LayOK P L) : ∀ (l : List Field), (∀ F ∈ l, ∃ lf, L (Field.type F) = some lf) →
    ∃ ps : List (Nat × Nat), (∀ w' : World, (l.mapM plF).run P w' = .ok ps w') ∧ ∀ (i : Nat) (F : Field), l[i]? = some F → ∀ lf, L F.type = some lf → ps[i]? = some (F.offset, lf.size)
  | [], _ => ⟨[], fun w' => by simp, by simp⟩
  | F :: l, h => by
    obtain ⟨ps, h1, h2⟩ := mapM_places hL l fun G hG => h G (List.mem_cons_of_mem _ hG)
    obtain ⟨lf, hlf⟩ := h F (List.mem_cons_self ..)
    have h0 : ∀ w' : World, (plF F).run P w' = .ok (F.offset, lf.size) w' := fun w' => by simp [plF, run_size hL hlf]
    refine ⟨(F.offset, lf.size) :: ps, fun w' => by simp [List.mapM_cons, h0, h1], fun i G hG lg hlg => ?_⟩
    cases i with
    | zero => simp at hG; subst hG; rw [hlf] at hlg; cases hlg; simp
    | succ i => simp at hG; simpa using h2 i G hG lg hlg

/-- Every field's type is known. -/
def LayOK.Fields (L : LE) : Prop := ∀ t l fs, L t = some l → l.d = .st fs → ∀ f ∈ fs, ∃ lf, L f.2 = some lf

theorem buildA_ok {L : LE} (hL : LayOK P L) (hLf : LayOK.Fields L) (r : RelT N Z m ml s.tm a w) {t : Nat} {ps : Array (Nat × Operand)} {k : AV → Prop} (h : buildA L s t ps.toList k) :
    ∃ r v, k r ∧ VA N Z m ml w r v ∧ ∀ w' : World, (Instr.build t (ps.map fun (i, x) => (i, a.eval x))).run P w' = .ok v w' := by
  unfold buildA at h
  split at h
  · exact h.elim
  · rename_i l hl
    split at h
    · rename_i fs hd
      have hu := hL.desc t l hl
      rw [hd] at hu
      obtain ⟨A, hA, hm⟩ := hu
      obtain ⟨pls, h1, h2⟩ := mapM_places (P := P) hL A.toList (fun F hF => by
        refine hLf t l fs hl hd (F.offset, F.type) ?_
        rw [← hm]; exact List.mem_map.2 ⟨F, hF, rfl⟩)
      obtain ⟨z, hz, hzr⟩ := row_zero (N := N) (Z := Z) (m := m) (w := w) hL hl
      obtain ⟨cs, vs, g1, g2, g3⟩ := fillK_ok hL r hm pls.toArray (fun i F hF lf hlf => by simpa using h2 i F (by simpa using hF) lf hlf) ps.toList _ _ _ hzr h
      refine ⟨_, .agg vs, g1, .agg _ _ g2.1 g2.2, ?_⟩
      have hM : ∀ w' : World, (A.mapM plF).run P w' = .ok pls.toArray w' := fun w' => by
        rw [← Array.toArray_toList (xs := A), List.mapM_toArray]
        simp [h1]
      have hpl : (ps.map fun (i, x) => (i, a.eval x)).toList = ps.toList.map fun (i, x) => (i, a.eval x) := by simp
      intro w'
      simp only [Instr.build, Sem.run_bind, hz, run_underlying hA, Result.andThen_ok]
      show ((A.mapM plF).run P w').andThen _ = _
      simp only [hM, Result.andThen_ok, hpl, g3]
      rfl
    · exact h.elim

end

end Go.Proofs.Rv
