/- RvCode: guards, regions in the order of the text, and regions whose order is drawn, by a plan. -/
import Derived.Test.YtjnhijpophmmgaaRvOpD
import Derived.KernelRfl
import Derived.OrdersHeld
set_option linter.unusedVariables false
set_option linter.unusedSimpArgs false
namespace Go.Proofs.Rv
open Go

structure GB (b : Bool) (p q : Prop) : Prop where intro ::
  out : (b = true → p) ∧ (b = false → q)
theorem GB.mk {b : Bool} {p q : Prop} (h : b = true → p) (h' : b = false → q) : GB b p q := by refine .intro ?_; exact ⟨h, h'⟩
theorem GB.get {b : Bool} {p q : Prop} (h : GB b p q) : (b = true → p) ∧ (b = false → q) := h.out

def guardK0 (ops : List Oper) (s : St) (o : Oper) (run skip : St → Prop) : Prop :=
  match o.guard with
  | none => run s
  | some (j, want) => nthK ops j fun oj => match oj.dst with
    | none => False
    | some d => match lkA s.tm d with
      | .tt => match want with
        | true => run s
        | false => skip s
      | .ff => match want with
        | true => skip s
        | false => run s
      | .tup [] => skip s
      | .d (.bool b) => GB b
        (setK s.tm d .tt fun tm => match want with
          | true => run ⟨tm, s.loc, s.h⟩
          | false => skip ⟨tm, s.loc, s.h⟩)
        (setK s.tm d .ff fun tm => match want with
          | true => skip ⟨tm, s.loc, s.h⟩
          | false => run ⟨tm, s.loc, s.h⟩)
      | _ => False

def guardK (ops : List Oper) (s : St) (o : Oper) (run skip : St → Prop) : Prop :=
  match s with
  | ⟨tm, loc, hp⟩ =>
    match o.guard with
    | none => run ⟨tm, loc, hp⟩
    | some (j, want) => nthK ops j fun oj => match oj.dst with
      | none => False
      | some d => match lkA tm d with
        | .tt => match want with
          | true => run ⟨tm, loc, hp⟩
          | false => skip ⟨tm, loc, hp⟩
        | .ff => match want with
          | true => skip ⟨tm, loc, hp⟩
          | false => run ⟨tm, loc, hp⟩
        | .tup [] => skip ⟨tm, loc, hp⟩
        | .d (.bool b) => GB b
          (setK tm d .tt fun tm => match want with
            | true => run ⟨tm, loc, hp⟩
            | false => skip ⟨tm, loc, hp⟩)
          (setK tm d .ff fun tm => match want with
            | true => skip ⟨tm, loc, hp⟩
            | false => run ⟨tm, loc, hp⟩)
        | _ => False

theorem guardK_old (ops : List Oper) (s : St) (o : Oper) (run skip : St → Prop) (hx_ : guardK ops s o run skip) : guardK0 ops s o run skip := by
  have e : (guardK ops s o run skip) = (guardK0 ops s o run skip) := by cases s; kernel_rfl
  exact e ▸ hx_
theorem guardK_new (ops : List Oper) (s : St) (o : Oper) (run skip : St → Prop) (hx_ : guardK0 ops s o run skip) : guardK ops s o run skip := by
  have e : (guardK0 ops s o run skip) = (guardK ops s o run skip) := by cases s; kernel_rfl
  exact e ▸ hx_

section
variable {P : Program} {B0 N : Nat} {Z : Nat → Prop} {m : Nat → Option Blk} {ml : Nat → Option Nat} {w w' : World} {s : St} {a : Act} {T : Nat → Prop} {h0 : Heap} {pd pds : Nat → Prop}

theorem RR.retm (r : RR B0 N Z m ml s a w) {d : Nat} {y : AV} (hy : ∀ v, VA N Z m ml w (lkA s.tm d) v → VA N Z m ml w y v) : RR B0 N Z m ml ⟨setL s.tm d y, s.loc, s.h⟩ a w := by
  refine ⟨r.H, r.L, r.T.setL (a' := a) rfl rfl fun i v hv => ?_, r.B⟩
  split
  · rename_i e; subst e
    refine hy v ?_
    have hlt : i < a.tmps.size := (Array.getElem?_eq_some_iff.1 hv).1
    have hlt' : i < s.tm.length := by have := r.T.size; omega
    have := r.T.get i s.tm[i] v (List.getElem?_eq_getElem hlt') hv
    rw [lkA_get, List.getElem?_eq_getElem hlt']; exact this
  · exact hv

theorem VA.skp : VA N Z m ml w (.tup []) Go.undef := .tup [] #[] rfl (by simp)

theorem guardK_ok (r : RR B0 N Z m ml s a w) {ops : Array Oper} {o : Oper} {run skip : St → Prop} (h : guardK ops.toList s o run skip) :
    ∃ s', RR B0 N Z m ml s' a w ∧ ((Region.wanted o (yielded ops a.tmps) = true ∧ run s') ∨ (Region.wanted o (yielded ops a.tmps) = false ∧ skip s')) := by
  replace h := guardK_old _ _ _ _ _ h
  unfold guardK0 at h
  split at h
  · rename_i hg
    exact ⟨s, r, .inl ⟨by simp [Region.wanted, hg], h⟩⟩
  · rename_i j want hg
    obtain ⟨oj, hoj, h⟩ := nthK_ok h
    split at h
    · exact h.elim
    · rename_i d hd
      have hops : ops[j]? = some oj := by simpa using hoj
      have hy : ∀ b, VA N Z m ml w (lkA s.tm d) (.bool b) → (∀ v, VA N Z m ml w (lkA s.tm d) v → v = .bool b) → lkA s.tm d ≠ .undef → (∀ f xs, lkA s.tm d ≠ .dfr f xs) → yielded ops a.tmps j = some b := fun b _ hu hne hnd => by
        have hlt : d < s.tm.length := by
          rcases Nat.lt_or_ge d s.tm.length with h | h
          · exact h
          · rw [lkA_get, List.getElem?_eq_none h] at hne; exact absurd rfl hne
        have hlt' : d < a.tmps.size := by
          rcases r.T.pos (List.getElem?_eq_getElem hlt) with ⟨h, _⟩ | ⟨_, f, xs, e⟩
          · exact h
          · exact absurd (by rw [lkA_get, List.getElem?_eq_getElem hlt, e]; rfl) (hnd f xs)
        have hv := r.T.get d s.tm[d] a.tmps[d] (List.getElem?_eq_getElem hlt) (Array.getElem?_eq_getElem hlt')
        have hb := hu a.tmps[d] (by rw [lkA_get, List.getElem?_eq_getElem hlt]; exact hv)
        simp [yielded, hops, hd, Array.getElem?_eq_getElem hlt', hb]
      have hw : ∀ b, yielded ops a.tmps j = some b → Region.wanted o (yielded ops a.tmps) = (b == want) := fun b hb => by
        simp [Region.wanted, hg, hb]
      split at h
      · rename_i e
        have := hw true (hy true (by rw [e]; exact .tt) (fun v hv => by rw [e] at hv; cases hv; rfl) (by rw [e]; exact fun h => by cases h) (by rw [e]; exact fun _ _ h => by cases h))
        split at h
        · exact ⟨s, r, .inl ⟨by rw [this]; rfl, h⟩⟩
        · exact ⟨s, r, .inr ⟨by rw [this]; rfl, h⟩⟩
      · rename_i e
        have := hw false (hy false (by rw [e]; exact .ff) (fun v hv => by rw [e] at hv; cases hv; rfl) (by rw [e]; exact fun h => by cases h) (by rw [e]; exact fun _ _ h => by cases h))
        split at h
        · exact ⟨s, r, .inr ⟨by rw [this]; rfl, h⟩⟩
        · exact ⟨s, r, .inl ⟨by rw [this]; rfl, h⟩⟩
      · rename_i e
        have hlt : d < s.tm.length := by
          rcases Nat.lt_or_ge d s.tm.length with h | h
          · exact h
          · rw [lkA_get, List.getElem?_eq_none h] at e; cases e
        refine ⟨s, r, .inr ⟨?_, h⟩⟩
        have hy : yielded ops a.tmps j = none := by
          rcases Nat.lt_or_ge d a.tmps.size with hlt' | hge
          · have hv := r.T.get d s.tm[d] a.tmps[d] (List.getElem?_eq_getElem hlt) (Array.getElem?_eq_getElem hlt')
            rw [lkA_get, List.getElem?_eq_getElem hlt] at e
            have e' : s.tm[d] = .tup [] := e
            rw [e'] at hv
            have hv' : ∃ vs, a.tmps[d] = .tuple vs := by
              generalize a.tmps[d] = y at hv
              cases hv; exact ⟨_, rfl⟩
            obtain ⟨vs, hv'⟩ := hv'
            simp [yielded, hops, hd, Array.getElem?_eq_getElem hlt', hv']
          · simp [yielded, hops, hd, Array.getElem?_eq_none hge]
        simp [Region.wanted, hg, hy]
      · rename_i b e
        have hall : ∀ v, VA N Z m ml w (lkA s.tm d) v → v = .bool b := fun v hv => by rw [e] at hv; cases hv; rename_i hv; cases hv; rfl
        have := hw b (hy b (by rw [e]; exact .d (.bool b)) hall (by rw [e]; exact fun h => by cases h) (by rw [e]; exact fun _ _ h => by cases h))
        obtain ⟨h1, h2⟩ := h.get
        cases b with
        | true =>
          have h := setK_ok (h1 rfl)
          refine ⟨_, r.retm (d := d) (y := .tt) (fun v hv => by rw [hall v hv]; exact .tt), ?_⟩
          split at h
          · exact .inl ⟨by rw [this]; rfl, h⟩
          · exact .inr ⟨by rw [this]; rfl, h⟩
        | false =>
          have h := setK_ok (h2 rfl)
          refine ⟨_, r.retm (d := d) (y := .ff) (fun v hv => by rw [hall v hv]; exact .ff), ?_⟩
          split at h
          · exact .inr ⟨by rw [this]; rfl, h⟩
          · exact .inl ⟨by rw [this]; rfl, h⟩
      · exact h.elim
end

/-- A region in the order of the text. -/
def vcOps0 (P : Program) (L : LE) (T : Nat → Prop) (h0 : Heap) (gl : Nat → Bool) (ops : List Oper) : List Oper → St → (St → Prop) → Prop
  | [], s, K => K s
  | o :: rest, s, K => guardK ops s o
      (fun s => opA P L T h0 gl (fun _ => False) (fun _ => False) s o fun s' => vcOps0 P L T h0 gl ops rest s' K)
      (fun s => match s with
        | ⟨tm, loc, hp⟩ => putK tm o.dst (.tup []) fun tm => vcOps0 P L T h0 gl ops rest ⟨tm, loc, hp⟩ K)

section
variable {P : Program} {N0 : Nat} {Z0 : Nat → Prop} {m0 : Nat → Option Blk} {w0 : World} {T : Nat → Prop} {h0 : Heap}

/-- What is behind a region. -/
def Post (T : Nat → Prop) (N0 : Nat) (Z0 : Nat → Prop) (m0 : Nat → Option Blk) (w0 : World) (K : St → Prop) : Exit → Act → World → Prop
  | .normal, a, w => ∃ s, K s ∧ R T N0 Z0 m0 w0 s a w
  | _, _, _ => False

theorem R.after (hH : RelH N0 Z0 m0 h0 w0) {N : Nat} {Z : Nat → Prop} {m : Nat → Option Blk} {ml : Nat → Option Nat} {w : World} {s : St} {a : Act} (r : RR w0.heap.size N Z m ml s a w)
    (hs : Stp T (fun _ => False) N0 Z0 m0 w0 N Z m w) {pd pds : Nat → Prop} {N' : Nat} {Z' : Nat → Prop} {m' : Nat → Option Blk} {w' : World} (he : Eff T h0 pd pds N Z m ml w N' Z' m' w') :
    Stp T (fun _ => False) N0 Z0 m0 w0 N' Z' m' w' := by
  obtain ⟨TT, SS, h1, h2, h3⟩ := he
  refine hs.trans h1 (fun o ho => (h2 o ho).1.imp id fun h => hH.non o h) (fun b hb => .inr ?_)
  obtain ⟨t, ht, _⟩ := h3 b hb
  exact (r.L.dom t b ht).2.1

theorem vcOps0_ok {L : LE} (hL : LayOK P L) (hLf : LayOK.Fields L) (hH : RelH N0 Z0 m0 h0 w0) {gl : Nat → Bool} {ops : Array Oper} {K : St → Prop} :
    ∀ (rest : List Oper) (i : Nat), ops.toList.drop i = rest → ∀ (s : St) (a : Act) (w : World), R T N0 Z0 m0 w0 s a w → vcOps0 P L T h0 gl ops.toList rest s K →
      wpOps P ops (Post T N0 Z0 m0 w0 K) (List.range' i rest.length) a w
  | [], i, _, s, a, w, hR, h => ⟨s, h, hR⟩
  | o :: rest, i, hd, s, a, w, hR, h => by
    have ho : ops[i]? = some o := by
      have : (ops.toList.drop i)[0]? = some o := by rw [hd]; rfl
      simpa using this
    have hd' : ops.toList.drop (i + 1) = rest := by rw [← List.drop_drop, hd]; rfl
    simp only [vcOps0] at h
    obtain ⟨N, Z, m, ml, r, hs⟩ := hR
    obtain ⟨s1, r1, h⟩ := guardK_ok r h
    rw [List.length_cons, List.range'_succ, wpOps_cons]
    unfold wpOp
    simp only [ho]
    rcases h with ⟨hw, h⟩ | ⟨hw, h⟩
    · simp only [hw, if_true]
      refine .inl (Oper.wp_mono ?_ (opA_ok hL hLf r1 h _))
      rintro a' w' ⟨s2, N', Z', m', ml', h1, _, h2, h3⟩
      exact vcOps0_ok hL hLf hH rest (i + 1) hd' s2 a' w' ⟨N', Z', m', ml', h2, R.after hH r1 hs h3⟩ h1
    · simp only [hw, Bool.false_eq_true, if_false]
      exact vcOps0_ok hL hLf hH rest (i + 1) hd' _ _ w ⟨N, Z, m, ml, r1.put o.dst VA.skp, hs⟩ (putK_ok h)

/-- The same, by the recursor (so that the kernel meets the same terms). -/
noncomputable def vcOps (P : Program) (L : LE) (T : Nat → Prop) (h0 : Heap) (gl : Nat → Bool) (ops : List Oper) (l : List Oper) : St → (St → Prop) → Prop :=
  List.rec (motive := fun _ => St → (St → Prop) → Prop) (fun s K => K s)
    (fun o _ ih s K => guardK ops s o (fun s => opA P L T h0 gl (fun _ => False) (fun _ => False) s o fun s' => ih s' K)
      (fun s => match s with
        | ⟨tm, loc, hp⟩ => putK tm o.dst (.tup []) fun tm => ih ⟨tm, loc, hp⟩ K)) l
theorem vcOps_eq {P : Program} {L : LE} {T : Nat → Prop} {h0 : Heap} {gl : Nat → Bool} {ops : List Oper} : ∀ l : List Oper, vcOps P L T h0 gl ops l = vcOps0 P L T h0 gl ops l
  | [] => by funext s K; simp only [vcOps0]; rfl
  | o :: rest => by
    funext s K
    simp only [vcOps0]
    rw [← vcOps_eq rest]
    rfl

theorem region_ok {L : LE} (hL : LayOK P L) (hLf : LayOK.Fields L) (hH : RelH N0 Z0 m0 h0 w0) {gl : Nat → Bool} {ops : Array Oper} {K : St → Prop} {id : Nat} {s : St} {a : Act} {w : World} (hR : R T N0 Z0 m0 w0 s a w)
    (h : vcOps P L T h0 gl ops.toList ops.toList s K) : (Code.region id ops false).wp P (Post T N0 Z0 m0 w0 K) a w := by
  refine wp_region ?_
  rw [vcOps_eq] at h
  have := vcOps0_ok hL hLf hH ops.toList 0 rfl s a w hR h
  rwa [← List.range_eq_range', Array.length_toList] at this

end

end Go.Proofs.Rv
