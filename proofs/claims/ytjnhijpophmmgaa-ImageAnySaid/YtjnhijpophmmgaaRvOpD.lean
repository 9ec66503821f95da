/- RvOpD: the law of 'opA'. -/
import Derived.Test.YtjnhijpophmmgaaRvOpC
set_option linter.unusedVariables false
set_option linter.unusedSimpArgs false
namespace Go.Proofs.Rv
open Go

section
variable {P : Program} {B0 N : Nat} {Z : Nat → Prop} {m : Nat → Option Blk} {ml : Nat → Option Nat} {w w' : World} {s : St} {a : Act} {T : Nat → Prop} {h0 : Heap} {pd pds : Nat → Prop}

theorem wp_of_value {o : Oper} {v : Value} {next : Act → World → Prop} {Qc : Exit → Act → World → Prop} (hr : (execOp a.eval o).run P w = .ok (.value v) w') (h : next (a.put o.dst v) w') : o.wp P a w next Qc := by
  unfold Oper.wp; rw [hr]; exact h

theorem wp_of_skip {o : Oper} {next : Act → World → Prop} {Qc : Exit → Act → World → Prop} (hr : (execOp a.eval o).run P w = .ok .skip w') (h : next (a.put o.dst undef) w') : o.wp P a w next Qc := by
  unfold Oper.wp; rw [hr]; exact h

theorem run_v {x : Sem Value} {v : Value} (h : x.run P w = .ok v w') : (do pure (Next.value (← x)) : Sem Next).run P w = .ok (.value v) w' := by simp [h]

/-- The relation behind a call. -/
theorem RR.call (r : RR B0 N Z m ml s a w) {T' : Nat → Prop} {N' : Nat} {Z' : Nat → Prop} {m' : Nat → Option Blk} {h' : Heap} (hH : RelH N' Z' m' h' w') (hs : Stp T' (fun _ => False) N Z m w N' Z' m' w') :
    RR B0 N' Z' m' ml { s with h := h' } a w' := by
  have keep : ∀ t b, ml t = some b → w'.heap[b]? = w.heap[b]? ∧ ¬ Z' b ∧ ∀ o bb, m' o = some bb → bb.b ≠ b := fun t b ht => by
    obtain ⟨d1, d2, d3, d4, d5⟩ := r.L.dom t b ht
    refine ⟨hs.fr b d3 (.inr ⟨fun o bb _ hm => d5 o bb hm, fun h => h⟩), fun hz => ?_, fun o bb ho e => ?_⟩
    · rcases hs.znew b hz with h | ⟨o, bb, ho, e⟩ | h
      · exact d4 h
      · exact d5 o bb ho e
      · omega
    · rcases hs.mnew o bb ho with h | ⟨_, h | ⟨o1, b1, _, m1, e1⟩⟩
      · exact d5 o bb h e
      · omega
      · exact d5 o1 b1 m1 (by omega)
  have hw : ∀ b, Z b → w'.heap[b]? = w.heap[b]? := fun b hb => hs.fr b (r.H.zlt b hb) (.inl hb)
  refine ⟨hH, ⟨fun t cs hc => ?_, fun t b ht => ?_, r.L.inj⟩, r.T.mono hs.nn hs.zz hs.mm hw (fun _ _ h => h), Nat.le_trans r.B hs.sz⟩
  · obtain ⟨b, arr, TT, e1, e2, e3, e4⟩ := r.L.sl t cs hc
    refine ⟨b, arr, TT, e1, by rw [(keep t b e1).1]; exact e2, e3, fun i x hx => ?_⟩
    obtain ⟨v, f1, f2⟩ := e4 i x hx
    exact ⟨v, f1, f2.mono hs.nn hs.zz hs.mm hw⟩
  · obtain ⟨d1, d2, d3, _, _⟩ := r.L.dom t b ht
    exact ⟨d1, d2, Nat.lt_of_lt_of_le d3 hs.sz, (keep t b ht).2⟩

def After (B0 : Nat) (T : Nat → Prop) (h0 : Heap) (pd pds : Nat → Prop) (N : Nat) (Z : Nat → Prop) (m : Nat → Option Blk) (ml : Nat → Option Nat) (w : World) (dst : Option Nat) (K : St → Prop) (a' : Act) (w' : World) : Prop :=
  ∃ s' N' Z' m' ml', K s' ∧ (∀ t, dst ≠ some t → ml' t = ml t) ∧ RR B0 N' Z' m' ml' s' a' w' ∧ Eff T h0 pd pds N Z m ml w N' Z' m' w'

theorem yld_after {L : LE} (hL : LayOK P L) (hLf : LayOK.Fields L) (r : RR B0 N Z m ml s a w) {o : Oper} {K : St → Prop} (h : yld L s o.op fun q => putK s.tm o.dst q fun tm => K ⟨tm, s.loc, s.h⟩) (Qc : Exit → Act → World → Prop) :
    o.wp P a w (After B0 T h0 pd pds N Z m ml w o.dst K) Qc := by
  obtain ⟨q, v, h1, h2, h3⟩ := yld_ok hL hLf r h
  exact wp_of_value (h3 w (Same.refl _ _ _ _ _)) ⟨_, N, Z, m, ml, putK_ok h1, fun _ _ => rfl, r.put o.dst h2, Eff.refl⟩

theorem call_run {fid : Nat} {fn : Func} (hf : P.funcs[fid]? = some fn) (hn : (fn.name == "runtime.NumGoroutine") = false) (hb : fn.body.isNone = false) (args : Array Value) :
    (callFunc fid args).run P w = .ok (.enter fid args) w := by
  simp only [callFunc, Sem.run_bind, run_program, Result.andThen_ok, hf, hn, hb]
  rfl

/-- **The law.** -/
theorem opA_ok {L : LE} (hL : LayOK P L) (hLf : LayOK.Fields L) (r : RR B0 N Z m ml s a w) {gl : Nat → Bool} {o : Oper} {K : St → Prop} (h : opA P L T h0 gl pd pds s o K) (Qc : Exit → Act → World → Prop) :
    o.wp P a w (After B0 T h0 pd pds N Z m ml w o.dst K) Qc := by
  replace h := opA_old _ _ _ _ _ _ _ _ _ _ h
  unfold opA0 at h
  split at h
  · rename_i e heq
    split at h
    · exact h.elim
    · rename_i l hl
      obtain ⟨z, hz, hr⟩ := row_zero (N := N) (Z := Z) (m := m) (w := w) hL hl
      obtain ⟨s', N', m', ml', h1, hml, h2, h3⟩ := newA_ok (T := T) (h0 := h0) (pd := pd) (pds := pds) r hr h
      refine wp_of_value (v := .pointer (some ⟨w.heap.size, 0, none⟩)) (w' := w.alloc (.cells z.cells e)) ?_ ⟨s', N', Z, m', ml', h1, hml, h2, h3⟩
      simp [execOp, heq, Instr.alloc, hz, newVar, newRow]
  · rename_i e x heq
    split at h
    · exact h.elim
    · rename_i l hl
      obtain ⟨cs, hk, hr⟩ := cellsK_ok (r.T.ev x) h
      obtain ⟨s', N', m', ml', h1, hml, h2, h3⟩ := newA_ok (T := T) (h0 := h0) (pd := pd) (pds := pds) r hr hk
      refine wp_of_value (v := .pointer (some ⟨w.heap.size, 0, none⟩)) (w' := w.alloc (.cells (a.eval x).cells e)) ?_ ⟨s', N', Z, m', ml', h1, hml, h2, h3⟩
      simp [execOp, heq, Instr.box, newVar, newRow]
  · rename_i t p x heq
    obtain ⟨loc', h', w', h1, h2, h3, h4⟩ := storeA_ok hL r (r.T.ev p) (r.T.ev x) h
    refine wp_of_skip (w' := w') ?_ ⟨_, N, Z, m, ml, putK_ok h1, fun _ _ => rfl, h3.put o.dst (.undef _), h4⟩
    simp [execOp, heq, h2]
  · rename_i t n c heq
    obtain ⟨q, v, h', N', m', w', h1, h2, h3, h4, h5⟩ := makeA_ok (T := T) (h0 := h0) (pd := pd) (pds := pds) hL r (r.T.ev n) (r.T.ev c) h
    refine wp_of_value (v := v) (w' := w') ?_ ⟨_, N', Z, m', ml, putK_ok h1, fun _ _ => rfl, h4.put o.dst h3, h5⟩
    simp only [execOp, heq]; exact run_v h2
  · rename_i t n ps heq
    split at h
    · exact h.elim
    · rename_i d hd
      split at h
      · obtain ⟨q, v, h', N', m', w', h1, h2, h3, h4, h5⟩ := buildSlA_ok (T := T) (h0 := h0) (pd := pd) (pds := pds) hL r h
        refine wp_of_value (v := v) (w' := w') ?_ ⟨_, N', Z, m', ml, setK_ok h1, fun _ _ => rfl, by rw [hd]; exact h4.put (some d) h3, h5⟩
        simp only [execOp, heq]; exact run_v h2
      · obtain ⟨q, v, N', Z', m', ml', w', h1, h2, h3, h4, h5, h6⟩ := buildSlF_ok (T := T) (h0 := h0) (pd := pd) (pds := pds) hL r h
        refine wp_of_value (v := v) (w' := w') ?_ ⟨_, N', Z', m', ml', setK_ok h1, fun t _ => h2 t, by rw [hd]; exact h5.put (some d) h4, h6⟩
        simp only [execOp, heq]; exact run_v h3
  · rename_i c heq
    obtain ⟨callee, args, argTypes⟩ := c
    simp only at h
    split at h
    · split at h
      · rename_i x y t t' e1 e2
        split at h
        · rename_i ht
          have ht : t = t' := Nat.eq_of_beq_eq_true ht
          subst ht
          have a1 : args = #[x, y] := by have := congrArg List.toArray e1; simpa using this
          have a2 : argTypes = #[t, t] := by have := congrArg List.toArray e2; simpa using this
          obtain ⟨q, v, h', N', m', w', TT, h1, h2, h3, h4, h5, h6⟩ := appA_ok (ty := o.type) hL r (r.T.ev x) (r.T.ev y) h
          refine wp_of_value (v := v) (w' := w') ?_ ⟨_, N', Z, m', ml, putK_ok h1, fun _ _ => rfl, h4.put o.dst h3, TT, fun _ => False, h5 _, h6, fun _ h => h.elim⟩
          simp only [execOp, heq, resolve, invoke, a1, a2, Sem.run_bind, Sem.run_pure, Result.andThen_ok, builtin, List.map_toArray, List.map_cons, List.map_nil]
          simp [h2]
        · have a1 : args = #[x, y] := by have := congrArg List.toArray e1; simpa using this
          have a2 : argTypes = #[t, t'] := by have := congrArg List.toArray e2; simpa using this
          obtain ⟨q, v, h', N', m', w', h1, h2, h3, h4, h5⟩ := appZ_ok (ty := o.type) hL r (r.T.ev x) (r.T.ev y) h
          refine wp_of_value (v := v) (w' := w') ?_ ⟨_, N', Z, m', ml, putK_ok h1, fun _ _ => rfl, h4.put o.dst h3, fun _ => False, fun _ => False, h5 _ _, fun _ h => h.elim, fun _ h => h.elim⟩
          simp only [execOp, heq, resolve, invoke, a1, a2, Sem.run_bind, Sem.run_pure, Result.andThen_ok, builtin, List.map_toArray, List.map_cons, List.map_nil]
          simp [h2]
      · exact h.elim
    · split at h
      · rename_i x y t t' e1 e2
        have a1 : args = #[x, y] := by have := congrArg List.toArray e1; simpa using this
        have a2 : argTypes = #[t, t'] := by have := congrArg List.toArray e2; simpa using this
        obtain ⟨q, v, h', w', h1, h2, h3, h4, h5⟩ := copyA_ok (pds := pds) (t2 := t') (ty := o.type) hL r (r.T.ev x) (r.T.ev y) h
        refine wp_of_value (v := v) (w' := w') ?_ ⟨_, N, Z, m, ml, putK_ok h1, fun _ _ => rfl, h4.put o.dst h3, h5⟩
        simp only [execOp, heq, resolve, invoke, a1, a2, Sem.run_bind, Sem.run_pure, Result.andThen_ok, builtin, List.map_toArray, List.map_cons, List.map_nil]
        simp [h2]
      · exact h.elim
    · exact yld_after hL hLf r h Qc
    · rename_i f
      have hvf := r.T.ev f
      split at h
      · rename_i fid cap hev
        rw [hev] at hvf
        have h := appD_ok (argsK_ok h)
        split at h
        · rename_i hcl
          obtain ⟨T', hT', ⟨fn, f1, f2, f3⟩, hc⟩ := h.get
          cases hvf; rename_i hvf
          generalize hev2 : a.eval f = vf at hvf
          cases hvf; rename_i us hus huv
          have hcalls := hc N Z m w ((args.map a.eval) ++ us) r.H (by simp [hus]) (fun i x v hx hv => by
            refine VA.clean (ml := ml) ?_ (AV.cleanAll_get hcl hx)
            rw [List.getElem?_append] at hx
            rw [Array.getElem?_append] at hv
            simp only [List.length_map, Array.length_toList] at hx
            simp only [Array.size_map] at hv
            split at hx
            · rename_i hlt
              rw [if_pos hlt] at hv
              rw [List.getElem?_map] at hx
              rw [Array.getElem?_map] at hv
              cases hq : args[i]? with
              | none => rw [hq] at hv; cases hv
              | some y =>
                have hq' : args.toList[i]? = some y := by simpa using hq
                rw [hq'] at hx; rw [hq] at hv
                simp at hx hv
                subst hx hv
                exact r.T.ev y
            · rename_i hlt
              rw [if_neg hlt] at hv
              rw [List.getElem?_map] at hx
              cases hq : cap[i - args.size]? with
              | none => rw [hq] at hx; cases hx
              | some y => rw [hq] at hx; simp at hx; subst hx; exact .d (huv _ y v hq hv))
          unfold Oper.wp
          have hrun : (execOp a.eval o).run P w = .ok (.enter fid ((args.map a.eval) ++ us)) w := by
            simp only [execOp, heq, resolve, hev2, Deferred.ofValue, Sem.run_bind, Sem.run_pure, Result.andThen_ok, invoke]
            rw [show (#[] ++ Array.map a.eval args : Array Value) = Array.map a.eval args from by simp]
            exact call_run f1 f2 f3 _
          rw [hrun]
          simp only [Oper.upon]
          refine hcalls.mono ?_
          rintro e w' ⟨v, q, h', N', Z', m', rfl, k1, k2, k3, k4, k5⟩
          refine ⟨_, N', Z', m', ml, putK_ok k1, fun _ _ => rfl, (r.call k3 k5).put o.dst (VA.clean k4 k2), T', fun _ => False, k5, hT', fun _ h => h.elim⟩
        · exact h.elim
      · exact h.elim
    · exact h.elim
  · rename_i c heq
    obtain ⟨callee, args, argTypes⟩ := c
    simp only at h
    split at h
    · rename_i f
      have hvf := r.T.ev f
      split at h
      · rename_i fid hev
        rw [hev] at hvf
        have h := argsK_ok h
        split at h
        · rename_i hcl
          cases hvf; rename_i hvf
          generalize hev2 : a.eval f = vf at hvf
          cases hvf; rename_i us hus huv
          have hus : us = #[] := Array.eq_empty_of_size_eq_zero (by simpa using hus)
          subst hus
          obtain ⟨tm', hk, hr⟩ := r.T.push (f := fid) (vs := args.map a.eval) (by simp) (fun j x v hx hv => by
            rw [List.getElem?_map] at hx
            rw [Array.getElem?_map] at hv
            cases hq : args[j]? with
            | none => rw [hq] at hv; cases hv
            | some y =>
              have hq' : args.toList[j]? = some y := by simpa using hq
              rw [hq'] at hx; rw [hq] at hv
              simp at hx hv
              subst hx hv
              exact r.T.ev y) h
          unfold Oper.wp
          have hrun : (execOp a.eval o).run P w = .ok (.defer ⟨.fn (.func fid) #[], args.map a.eval⟩) w := by
            simp only [execOp, heq, resolve, hev2, Deferred.ofValue, Sem.run_bind, Sem.run_pure, Result.andThen_ok]
            rw [show (#[] ++ Array.map a.eval args : Array Value) = Array.map a.eval args from by simp]
          rw [hrun]
          simp only [Oper.upon]
          exact ⟨_, N, Z, m, ml, putK_ok hk, fun _ _ => rfl, (RR.put (s := ⟨tm', s.loc, s.h⟩) ⟨r.H, r.L, hr, r.B⟩ o.dst (.undef _)), Eff.refl⟩
        · exact h.elim
      · exact h.elim
    · exact h.elim
  · exact yld_after hL hLf r h Qc

end

end Go.Proofs.Rv
