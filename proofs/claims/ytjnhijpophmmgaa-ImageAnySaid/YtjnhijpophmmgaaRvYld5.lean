/- RvYld5: 'yld': an operation that leaves the world as it is, and its law. -/
import Derived.Test.YtjnhijpophmmgaaRvYld4
set_option linter.unusedVariables false
set_option linter.unusedSimpArgs false
namespace Go.Proofs.Rv
open Go

def makeFuncA (s : St) (fn : Fn) (first captured : List Operand) (k : AV → Prop) : Prop :=
  match fn, first with
  | .func f, [] => collF (captured.map (evA s.tm)) fun xs => k (.d (.fn f xs))
  | _, _ => False

def yld (L : LE) (s : St) (op : Op) (k : AV → Prop) : Prop :=
  match op with
  | .move x | .assign x => fc (evA s.tm x) k
  | .pick c x y => pickA (evA s.tm c) (evA s.tm x) (evA s.tm y) k
  | .nilCheck x => nilCheckA (evA s.tm x) k
  | .binOp op t x y _ => binA L op t (evA s.tm x) (evA s.tm y) k
  | .unOp op _ x => unA op (evA s.tm x) k
  | .convert src dst x => convA L s src dst (evA s.tm x) k
  | .extract x i => extractA (evA s.tm x) i k
  | .field t x i => fieldA L t i (evA s.tm x) k
  | .fieldAddr t x i => fieldAddrA L t i (evA s.tm x) k
  | .indexAddr t x i => indexAddrA L t (evA s.tm x) (evA s.tm i) k
  | .index t x i => indexStrA L t (evA s.tm x) (evA s.tm i) k
  | .slice t x lo hi mx => sliceA L s t (evA s.tm x) (lo.map (evA s.tm)) (hi.map (evA s.tm)) (mx.map (evA s.tm)) k
  | .build t ps => buildA L s t ps.toList k
  | .makeFunc fn first captured => makeFuncA s fn first.toList captured.toList k
  | .load t x => ldA L s t (evA s.tm x) k
  | .call c => match c.callee with
    | .builtin .len => match c.args.toList, c.argTypes.toList with
      | [x], [t] => lenA L t (evA s.tm x) k
      | _, _ => False
    | .builtin .cap => match c.args.toList, c.argTypes.toList with
      | [x], [t] => capA L t (evA s.tm x) k
      | _, _ => False
    | .builtin .max => match c.args.toList with
      | [x, y] => mmA true (evA s.tm x) (evA s.tm y) k
      | _ => False
    | .builtin .min => match c.args.toList with
      | [x, y] => mmA false (evA s.tm x) (evA s.tm y) k
      | _ => False
    | _ => False
  | _ => False

section
variable {P : Program} {B0 N : Nat} {Z : Nat → Prop} {m : Nat → Option Blk} {ml : Nat → Option Nat} {w : World} {s : St} {a : Act}

theorem collF_ok : ∀ {xs : List AV} {vs : List Value} {k : List FV → Prop}, vs.length = xs.length → (∀ (i : Nat) (x : AV) (v : Value), xs[i]? = some x → vs[i]? = some v → VA N Z m ml w x v) → collF xs k →
    ∃ ys, k ys ∧ Row N Z m w ys vs.toArray
  | [], vs, k, hs, _, h => ⟨[], h, by simpa using hs, by simp⟩
  | x :: xs, [], k, hs, _, h => by simp at hs
  | x :: xs, v :: vs, k, hs, hv, h => by
    unfold collF at h
    split at h
    · rename_i e; cases e
    · rename_i y ys e
      cases e
      obtain ⟨zs, h1, h2, h3⟩ := collF_ok (xs := xs) (vs := vs) (by simpa using hs) (fun i x v hx hu => hv (i + 1) x v (by simpa using hx) (by simpa using hu)) h
      have h0 := hv 0 (.d y) v rfl rfl
      refine ⟨_, h1, by simpa using h2, fun i x u hx hu => ?_⟩
      cases i with
      | zero => simp at hx hu; subst hx hu; cases h0; assumption
      | succ i => simp at hx hu; exact h3 i x u hx (by simpa using hu)
    · exact h.elim

theorem VO_map (r : RelT N Z m ml s.tm a w) (x : Option Operand) : VO N Z m ml w (x.map (evA s.tm)) (x.map a.eval) := by
  cases x with
  | none => trivial
  | some x => exact r.ev x

theorem extractA_ok {x : AV} {v : Value} {i : Nat} {k : AV → Prop} (hx : VA N Z m ml w x v) (h : extractA x i k) :
    ∃ r v', k r ∧ VA N Z m ml w r v' ∧ ∀ w' : World, (Instr.extract v i).run P w' = .ok v' w' := by
  unfold extractA at h
  split at h
  · cases hx; rename_i xs vs hs hv
    obtain ⟨y, hy, h⟩ := nthK_ok h
    have hi : i < vs.size := by rw [hs]; exact (List.getElem?_eq_some_iff.1 hy).1
    exact ⟨y, vs[i], fc_ok h, hv i y _ hy (Array.getElem?_eq_getElem hi), fun w' => by simp [Instr.extract, Array.getElem?_eq_getElem hi]⟩
  · exact h.elim

theorem mmA_ok {mx : Bool} {x y : AV} {vx vy : Value} {k : AV → Prop} (hx : VA N Z m ml w x vx) (hy : VA N Z m ml w y vy) (h : mmA mx x y k) :
    ∃ r v, k r ∧ VA N Z m ml w r v ∧ ∀ w' : World, (if mx then Builtin.max2 vx vy else Builtin.min2 vx vy).run P w' = .ok v w' := by
  unfold mmA at h
  obtain ⟨ka, n, rfl, h⟩ := asI_ok hx h
  obtain ⟨kb, n', rfl, h⟩ := asI_ok hy h
  split at h
  · refine ⟨_, _, h, .d (.int _ _), fun w' => ?_⟩
    simp only [if_true, Builtin.max2, Sem.run_pure]
    congr 2
    split <;> omega
  · refine ⟨_, _, h, .d (.int _ _), fun w' => ?_⟩
    simp only [Bool.false_eq_true, if_false, Builtin.min2, Sem.run_pure]
    congr 2
    split <;> omega

theorem run_val {x : Sem Value} {v : Value} {w' : World} (h : x.run P w' = .ok v w') : (do pure (Next.value (← x)) : Sem Next).run P w' = .ok (.value v) w' := by
  simp [h]

/-- The place that an operation reads. -/
def plOf (s : St) (op : Op) : Pl :=
  match op with
  | .load _ x => plP (evA s.tm x)
  | .convert _ _ x => plP (evA s.tm x)
  | _ => .no

/-- **The law of what yields.** -/
theorem yld_ok {L : LE} (hL : LayOK P L) (hLf : LayOK.Fields L) (r : RR B0 N Z m ml s a w) {o : Oper} {k : AV → Prop} (h : yld L s o.op k) :
    ∃ r v, k r ∧ VA N Z m ml w r v ∧ ∀ w' : World, Same Z m ml (plOf s o.op) w w' → (execOp a.eval o).run P w' = .ok (.value v) w' := by
  unfold yld at h
  split at h
  all_goals rename_i heq
  · rename_i x; exact ⟨_, _, fc_ok h, r.T.ev x, fun w' _ => by simp [execOp, heq]⟩
  · rename_i x; exact ⟨_, _, fc_ok h, r.T.ev x, fun w' _ => by simp [execOp, heq]⟩
  · rename_i c x y
    obtain ⟨q, v, b, h1, h2, h3, h4⟩ := pickA_ok (r.T.ev c) (r.T.ev x) (r.T.ev y) h
    exact ⟨q, v, h1, h2, fun w' _ => by simp [execOp, heq, h3, asBool, h4]⟩
  · rename_i x
    obtain ⟨q, h1, h2, h3⟩ := nilCheckA_ok (r.T.ev x) h
    refine ⟨q, _, h1, h2, fun w' _ => ?_⟩
    rcases h3 with ⟨p, h3⟩ | ⟨f, us, h3⟩ <;> simp [execOp, heq, h3]
  · rename_i op t x y _
    obtain ⟨q, v, h1, h2, h3⟩ := binA_ok hL x y (r.T.ev x) (r.T.ev y) h
    exact ⟨q, v, h1, h2, fun w' _ => by simp only [execOp, heq]; exact run_val (h3 w')⟩
  · rename_i op _ x
    obtain ⟨q, v, h1, h2, h3⟩ := unA_ok (P := P) (r.T.ev x) h
    exact ⟨q, v, h1, h2, fun w' _ => by simp only [execOp, heq]; exact run_val (h3 w')⟩
  · rename_i src dst x
    obtain ⟨q, v, h1, h2, h3⟩ := convA_ok hL r (r.T.ev x) h
    exact ⟨q, v, h1, h2, fun w' hw' => by simp only [execOp, heq]; exact run_val (h3 w' (by rw [heq] at hw'; exact hw'))⟩
  · rename_i x i
    obtain ⟨q, v, h1, h2, h3⟩ := extractA_ok (P := P) (r.T.ev x) h
    exact ⟨q, v, h1, h2, fun w' _ => by simp only [execOp, heq]; exact run_val (h3 w')⟩
  · rename_i t x i
    obtain ⟨q, v, h1, h2, h3⟩ := fieldA_ok hL (r.T.ev x) h
    exact ⟨q, v, h1, h2, fun w' _ => by simp only [execOp, heq]; exact run_val (h3 w')⟩
  · rename_i t x i
    obtain ⟨q, v, h1, h2, h3⟩ := fieldAddrA_ok hL (r.T.ev x) h
    exact ⟨q, v, h1, h2, fun w' _ => by simp only [execOp, heq]; exact run_val (h3 w')⟩
  · rename_i t x i
    obtain ⟨q, v, h1, h2, h3⟩ := indexAddrA_ok hL (r.T.ev x) (r.T.ev i) h
    exact ⟨q, v, h1, h2, fun w' _ => by simp only [execOp, heq]; exact run_val (h3 w')⟩
  · rename_i t x i
    obtain ⟨q, v, h1, h2, h3⟩ := indexStrA_ok hL (r.T.ev x) (r.T.ev i) h
    exact ⟨q, v, h1, h2, fun w' _ => by simp only [execOp, heq]; exact run_val (h3 w')⟩
  · rename_i t x lo hi mx
    obtain ⟨q, v, h1, h2, h3⟩ := sliceA_ok hL r (r.T.ev x) (VO_map r.T lo) (VO_map r.T hi) (VO_map r.T mx) h
    exact ⟨q, v, h1, h2, fun w' _ => by simp only [execOp, heq]; exact run_val (h3 w')⟩
  · rename_i t ps
    obtain ⟨q, v, h1, h2, h3⟩ := buildA_ok hL hLf r.T h
    exact ⟨q, v, h1, h2, fun w' _ => by simp only [execOp, heq]; exact run_val (h3 w')⟩
  · rename_i fn first captured
    unfold makeFuncA at h
    split at h
    · rename_i f hf
      obtain ⟨ys, h1, h2⟩ := collF_ok (vs := captured.toList.map a.eval) (by simp) (fun i x v hx hv => by
        rw [List.getElem?_map] at hx hv
        cases hc : captured.toList[i]? with
        | none => rw [hc] at hx; cases hx
        | some c => rw [hc] at hx hv; simp at hx hv; subst hx hv; exact r.T.ev c) h
      have hfirst : first = #[] := by
        have := congrArg List.toArray hf
        simpa using this
      refine ⟨_, .func (.func f) #[] (captured.toList.map a.eval).toArray, h1, .d (.fn _ _ _ h2.1 h2.2), fun w' _ => ?_⟩
      simp [execOp, heq, Instr.makeFunc, hfirst]
      rw [← Array.toList_map, Array.toArray_toList]
    · exact h.elim
  · rename_i t x
    obtain ⟨q, v, h1, h2, h3⟩ := ldA_ok hL r (r.T.ev x) h
    exact ⟨q, v, h1, h2, fun w' hw' => by simp only [execOp, heq]; exact run_val (h3 w' (by rw [heq] at hw'; exact hw'))⟩
  · rename_i c
    obtain ⟨callee, args, argTypes⟩ := c
    simp only at h
    split at h
    · split at h
      · rename_i x t e1 e2
        obtain ⟨q, v, h1, h2, h3⟩ := lenA_ok (P := P) (ty := o.type) hL (r.T.ev x) h
        have a1 : args = #[x] := by have := congrArg List.toArray e1; simpa using this
        have a2 : argTypes = #[t] := by have := congrArg List.toArray e2; simpa using this
        refine ⟨q, v, h1, h2, fun w' _ => ?_⟩
        simp only [execOp, heq, resolve, invoke, a1, a2, Sem.run_bind, Sem.run_pure, Result.andThen_ok, builtin, List.map_toArray, List.map_cons, List.map_nil]
        simp [h3]
      · exact h.elim
    · split at h
      · rename_i x t e1 e2
        obtain ⟨q, v, h1, h2, h3⟩ := capA_ok (P := P) (ty := o.type) hL (r.T.ev x) h
        have a1 : args = #[x] := by have := congrArg List.toArray e1; simpa using this
        have a2 : argTypes = #[t] := by have := congrArg List.toArray e2; simpa using this
        refine ⟨q, v, h1, h2, fun w' _ => ?_⟩
        simp only [execOp, heq, resolve, invoke, a1, a2, Sem.run_bind, Sem.run_pure, Result.andThen_ok, builtin, List.map_toArray, List.map_cons, List.map_nil]
        simp [h3]
      · exact h.elim
    · split at h
      · rename_i x y e1
        obtain ⟨q, v, h1, h2, h3⟩ := mmA_ok (P := P) (mx := true) (r.T.ev x) (r.T.ev y) h
        have a1 : args = #[x, y] := by have := congrArg List.toArray e1; simpa using this
        refine ⟨q, v, h1, h2, fun w' _ => ?_⟩
        simp only [if_true] at h3
        simp only [execOp, heq, resolve, invoke, a1, Sem.run_bind, Sem.run_pure, Result.andThen_ok, builtin, List.map_toArray, List.map_cons, List.map_nil]
        simp [Builtin.max_, h3]
      · exact h.elim
    · split at h
      · rename_i x y e1
        obtain ⟨q, v, h1, h2, h3⟩ := mmA_ok (P := P) (mx := false) (r.T.ev x) (r.T.ev y) h
        have a1 : args = #[x, y] := by have := congrArg List.toArray e1; simpa using this
        refine ⟨q, v, h1, h2, fun w' _ => ?_⟩
        simp only [Bool.false_eq_true, if_false] at h3
        simp only [execOp, heq, resolve, invoke, a1, Sem.run_bind, Sem.run_pure, Result.andThen_ok, builtin, List.map_toArray, List.map_cons, List.map_nil]
        simp [Builtin.min_, h3]
      · exact h.elim
    · exact h.elim
  · exact h.elim

end

end Go.Proofs.Rv
