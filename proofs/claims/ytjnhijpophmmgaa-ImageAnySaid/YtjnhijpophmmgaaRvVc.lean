/- RvVc: code, loops, functions. -/
import Derived.Test.YtjnhijpophmmgaaRvDraw2
import Derived.LoopN
set_option linter.unusedVariables false
set_option linter.unusedSimpArgs false
namespace Go.Proofs.Rv
open Go

/-- A loop: what it does is shown apart. -/
structure LoopX (P : Program) (T : Nat → Prop) (h0 : Heap) (c : Code) (s : St) (Q : Exit → St → Prop) : Prop where intro ::
  out : W P T h0 (.loop c) s Q

noncomputable def vc (P : Program) (L : LE) (T : Nat → Prop) (h0 : Heap) (gl : Nat → Bool) (dr : Nat → Option Plan) (c : Code) : St → (Exit → St → Prop) → Prop :=
  Code.rec (motive := fun _ => St → (Exit → St → Prop) → Prop)
    (fun s Q => Q .normal s)
    (fun id ops draw s Q => match draw with
      | false => vcOps P L T h0 gl ops.toList ops.toList s (Q .normal)
      | true => match dr id with
        | none => False
        | some plan => vcPlan P L T h0 gl ops.toList (Q .normal) plan [] s)
    (fun _ _ ia ib s Q => ia s fun e s' => match e with
      | .normal => ib s' Q
      | e => Q e s')
    (fun c _ _ ia ib s Q => match s with
      | ⟨tm, loc, hp⟩ => match evA tm c with
        | .tt => ia ⟨tm, loc, hp⟩ Q
        | .ff => ib ⟨tm, loc, hp⟩ Q
        | .d (.bool b) => match c with
          | .tmp t => GB b (setK tm t .tt fun tm => ia ⟨tm, loc, hp⟩ Q) (setK tm t .ff fun tm => ib ⟨tm, loc, hp⟩ Q)
          | _ => False
        | _ => False)
    (fun id _ ib s Q => ib s fun e s' => match e with
      | .exit i => match Nat.beq i id with
        | true => Q .normal s'
        | false => Q (.exit i) s'
      | e => Q e s')
    (fun c _ s Q => LoopX P T h0 c s Q)
    (fun _ _ _ _ _ _ _ _ => False)
    (fun id s Q => Q (.exit id) s)
    (fun _ _ _ _ => False)
    (fun _ s Q => Q .normal s)
    (fun _ _ _ => False)
    (fun s Q => Q .ret s)
    (fun _ _ _ => False) c

def plansOK (dr : Nat → Option Plan) : Code → Bool
  | .region id ops true => match dr id with
    | none => true
    | some plan => noSelL ops && plan.ok ops (Array.replicate ops.size false) [] && Nat.ble plan.len ops.size
  | .seq x y => plansOK dr x && plansOK dr y
  | .cond _ x y => plansOK dr x && plansOK dr y
  | .block _ c => plansOK dr c
  | _ => true

section
variable {P : Program} {T : Nat → Prop} {h0 : Heap}

theorem R.drew {N0 : Nat} {Z0 : Nat → Prop} {m0 : Nat → Option Blk} {w0 : World} {s : St} {a : Act} {w : World} (h : R T N0 Z0 m0 w0 s a w) : R T N0 Z0 m0 w0 s a { w with drawn := w.drawn + 1 } := by
  obtain ⟨N, Z, m, ml, r, hs⟩ := h
  exact ⟨N, Z, m, ml, r.grow (Grow.drew w), hs.trans (Stp.grow (fun _ => False) (fun _ => False) (Grow.drew w)) (fun _ h => h.elim) (fun _ h => h.elim)⟩

theorem vc_ok {L : LE} (hL : LayOK P L) (hLf : LayOK.Fields L) (hm : P.follows .mixedOrders = true) {gl : Nat → Bool} {dr : Nat → Option Plan} :
    ∀ (c : Code) (s : St) (Q : Exit → St → Prop), plansOK dr c = true → vc P L T h0 gl dr c s Q → W P T h0 c s Q
  | .skip, s, Q, _, h => fun _ _ _ _ _ a w hR => wp_skip ⟨s, h, hR⟩
  | .label _, s, Q, _, h => fun _ _ _ _ _ a w hR => wp_label ⟨s, h, hR⟩
  | .exit id, s, Q, _, h => fun _ _ _ _ _ a w hR => wp_exit ⟨s, h, hR⟩
  | .ret, s, Q, _, h => fun _ _ _ _ _ a w hR => wp_ret ⟨s, h, hR⟩
  | .loop c, s, Q, _, h => (show LoopX P T h0 c s Q from h).out
  | .region id ops false, s, Q, _, h => fun N0 Z0 m0 w0 hH a w hR => by
    have h : vcOps P L T h0 gl ops.toList ops.toList s (Q .normal) := h
    refine wp_mono (region_ok hL hLf hH hR h) fun x a' w' hp => ?_
    cases x <;> first | exact hp | exact hp.elim
  | .region id ops true, s, Q, hok, h => fun N0 Z0 m0 w0 hH a w hR => by
    have h : (match dr id with
      | none => False
      | some plan => vcPlan P L T h0 gl ops.toList (Q .normal) plan [] s) := h
    simp only [plansOK] at hok
    cases hd : dr id with
    | none => rw [hd] at h; exact h.elim
    | some plan =>
      rw [hd] at h hok
      simp only [Bool.and_eq_true] at hok
      obtain ⟨⟨h1, h2⟩, h3⟩ := hok
      obtain ⟨N, Z, m, ml, r, hs⟩ := hR.drew
      have hp := (plan_ok hL hLf hH (by rw [← noSelL_eq]; exact h1) plan _ [] [] [] s a _ N Z m ml h2 r hs (fun p hp => by cases hp) (by have h : vcPlan P L T h0 gl ops.toList (Q .normal) plan [] s := h; rw [vcPlan_eq] at h; exact h)).1 rfl ops.size (Nat.le_of_ble_eq_true h3)
      refine wp_mono (wp_region_any hm (wpAny_of_pend _ _ _ _ _ hp)) fun x a' w' hp => ?_
      cases x <;> first | exact hp | exact hp.elim
  | .seq x y, s, Q, hok, h => fun N0 Z0 m0 w0 hH a w hR => by
    simp only [plansOK, Bool.and_eq_true] at hok
    refine wp_seq (wp_mono (vc_ok hL hLf hm x s _ hok.1 h N0 Z0 m0 w0 hH a w hR) ?_)
    rintro e a' w' ⟨s', hq, hR'⟩
    cases e with
    | normal => exact vc_ok hL hLf hm y s' Q hok.2 hq N0 Z0 m0 w0 hH a' w' hR'
    | _ => exact ⟨s', hq, hR'⟩
  | .cond c x y, s, Q, hok, h => fun N0 Z0 m0 w0 hH a w hR => by
    simp only [plansOK, Bool.and_eq_true] at hok
    replace h : (match (generalizing := false) evA s.tm c with
        | .tt => vc P L T h0 gl dr x s Q
        | .ff => vc P L T h0 gl dr y s Q
        | .d (.bool b) => match (generalizing := false) c with
          | .tmp t => GB b (setK s.tm t .tt fun tm => vc P L T h0 gl dr x ⟨tm, s.loc, s.h⟩ Q) (setK s.tm t .ff fun tm => vc P L T h0 gl dr y ⟨tm, s.loc, s.h⟩ Q)
          | _ => False
        | _ => False) := h
    obtain ⟨N, Z, m, ml, r, hs⟩ := id hR
    have hv := r.T.ev c
    split at h
    · rename_i e; rw [e] at hv
      generalize hev : a.eval c = vv at hv
      cases hv
      exact wp_cond hev (vc_ok hL hLf hm x s Q hok.1 h N0 Z0 m0 w0 hH a w hR)
    · rename_i e; rw [e] at hv
      generalize hev : a.eval c = vv at hv
      cases hv
      exact wp_cond hev (vc_ok hL hLf hm y s Q hok.2 h N0 Z0 m0 w0 hH a w hR)
    · rename_i b e
      split at h
      · rename_i t
        have hall : ∀ v, VA N Z m ml w (lkA s.tm t) v → v = .bool b := fun v hv => by
          simp only [evA] at e
          split at e
          · cases e
          · rw [e] at hv; cases hv; rename_i hv; cases hv; rfl
        rw [e] at hv
        have key : ∀ vv, VA N Z m ml w (.d (.bool b)) vv → vv = .bool b := fun vv hv => by cases hv; rename_i hv; cases hv; rfl
        have hev := key _ hv
        obtain ⟨h1, h2⟩ := h.get
        refine wp_cond_split hev (fun e => ?_) (fun e => ?_)
        · subst e
          exact vc_ok hL hLf hm x _ Q hok.1 (setK_ok (h1 rfl)) N0 Z0 m0 w0 hH a w ⟨N, Z, m, ml, r.retm (fun v hv => by rw [hall v hv]; exact .tt), hs⟩
        · subst e
          exact vc_ok hL hLf hm y _ Q hok.2 (setK_ok (h2 rfl)) N0 Z0 m0 w0 hH a w ⟨N, Z, m, ml, r.retm (fun v hv => by rw [hall v hv]; exact .ff), hs⟩
      · exact h.elim
    · exact h.elim
  | .block id c, s, Q, hok, h => fun N0 Z0 m0 w0 hH a w hR => by
    refine wp_block (wp_mono (vc_ok hL hLf hm c s _ hok h N0 Z0 m0 w0 hH a w hR) ?_)
    rintro e a' w' ⟨s', hq, hR'⟩
    cases e with
    | exit i =>
      simp only at hq
      simp only [Exit.inBlock]
      split at hq
      · rename_i hb
        have : i = id := Nat.eq_of_beq_eq_true hb
        rw [if_pos this]; exact ⟨s', hq, hR'⟩
      · rename_i hb
        have : i ≠ id := by rintro rfl; simp at hb
        rw [if_neg this]; exact ⟨s', hq, hR'⟩
    | _ => exact ⟨s', hq, hR'⟩
  | .rangeFunc .., _, _, _, h => h.elim
  | .scope _, _, _, _, h => h.elim
  | .goto _, _, _, _, h => h.elim
  | .refuse _, _, _, _, h => h.elim

/-- Less is known: temporaries forgotten, slots and objects given up. -/
def leT : List AV → List AV → Prop
  | [], [] => True
  | x :: xs, y :: ys => (match y with | .undef => AV.isD x = false | y => x = y) ∧ leT xs ys
  | _, _ => False

def Le (s s' : St) : Prop := ∃ F, LeF F s s'

theorem leT_get : ∀ {xs ys : List AV}, leT xs ys → xs.length = ys.length ∧ ∀ (i : Nat) (x y : AV), xs[i]? = some x → ys[i]? = some y → (y = .undef ∧ AV.isD x = false) ∨ y = x
  | [], [], _ => ⟨rfl, by simp⟩
  | x :: xs, y :: ys, h => by
    obtain ⟨h1, h2⟩ := h
    obtain ⟨e1, e2⟩ := leT_get h2
    refine ⟨by simp [e1], fun i => ?_⟩
    cases i with
    | zero =>
      intro u v hu hv
      simp at hu hv; subst hu hv
      split at h1
      · exact .inl ⟨rfl, h1⟩
      · exact .inr h1.symm
    | succ i => intro u v hu hv; simp at hu hv; exact e2 i u v hu hv
  | [], _ :: _, h => h.elim
  | _ :: _, [], h => h.elim

/-- Without freezing. -/
theorem Le.of {s s' : St} (tm : leT s.tm s'.tm) (loc : ∀ t cs, lkL s'.loc t = some cs → lkL s.loc t = some cs) (h : ∀ o ob, s'.h o = some ob → s.h o = some ob) : Le s s' := by
  refine ⟨fun _ => False, (leT_get tm).1, fun i x y hx hy => ?_, fun t cs hc => ⟨cs, loc t cs hc, rfl, .refl _ _ _⟩, HFz.sub fun o ob ho => ⟨id, h o ob ho⟩, fun i x hd hx => ?_⟩
  · rcases (leT_get tm).2 i x y hx hy with ⟨rfl, _⟩ | rfl
    · exact .any _
    · exact .refl _
  · have hi : i < s'.tm.length := by rw [← (leT_get tm).1]; exact (List.getElem?_eq_some_iff.1 hx).1
    rcases (leT_get tm).2 i x _ hx (List.getElem?_eq_getElem hi) with ⟨_, h⟩ | h
    · rw [h] at hd; cases hd
    · rw [List.getElem?_eq_getElem hi, h]

/-- The same, where values may be weakened or frozen. -/
def leA (F : Nat → Prop) (h : Heap) : List AV → List AV → Prop
  | [], [] => True
  | x :: xs, y :: ys => (match y with | .undef => AV.isD x = false | y => x = y ∨ (AV.isD x = false ∧ AFz F h x y)) ∧ leA F h xs ys
  | _, _ => False

theorem leA_get {F : Nat → Prop} {h : Heap} : ∀ {xs ys : List AV}, leA F h xs ys → xs.length = ys.length ∧ ∀ (i : Nat) (x y : AV), xs[i]? = some x → ys[i]? = some y → (AFz F h x y ∧ AV.isD x = false) ∨ y = x
  | [], [], _ => ⟨rfl, by simp⟩
  | x :: xs, y :: ys, h => by
    obtain ⟨h1, h2⟩ := h
    obtain ⟨e1, e2⟩ := leA_get h2
    refine ⟨by simp [e1], fun i => ?_⟩
    cases i with
    | zero =>
      intro u v hu hv
      simp at hu hv; subst hu hv
      split at h1
      · exact .inl ⟨.any _, h1⟩
      · rcases h1 with h1 | ⟨h1, h3⟩
        · exact .inr h1.symm
        · exact .inl ⟨h3, h1⟩
    | succ i => intro u v hu hv; simp at hu hv; exact e2 i u v hu hv
  | [], _ :: _, h => h.elim
  | _ :: _, [], h => h.elim

theorem Le.mkF {s s' : St} (F : Nat → Prop) (tm : leA F s.h s.tm s'.tm) (loc : ∀ t cs, lkL s'.loc t = some cs → lkL s.loc t = some cs) (h : HFz F s.h s'.h) : Le s s' := by
  refine ⟨F, (leA_get tm).1, fun i x y hx hy => ?_, fun t cs hc => ⟨cs, loc t cs hc, rfl, .refl _ _ _⟩, h, fun i x hd hx => ?_⟩
  · rcases (leA_get tm).2 i x y hx hy with ⟨h, _⟩ | rfl
    · exact h
    · exact .refl _
  · have hi : i < s'.tm.length := by rw [← (leA_get tm).1]; exact (List.getElem?_eq_some_iff.1 hx).1
    rcases (leA_get tm).2 i x _ hx (List.getElem?_eq_getElem hi) with ⟨_, h⟩ | h
    · rw [h] at hd; cases hd
    · rw [List.getElem?_eq_getElem hi, h]

theorem Le.refl (s : St) : Le s s := ⟨fun _ => False, rfl, fun i x y hx hy => by rw [hx] at hy; cases hy; exact .refl _, fun _ cs h => ⟨cs, h, rfl, .refl _ _ _⟩, HFz.sub fun _ _ h => ⟨id, h⟩, fun _ _ _ h => h⟩

theorem R.le {N0 : Nat} {Z0 : Nat → Prop} {m0 : Nat → Option Blk} {w0 : World} {s s' : St} {a : Act} {w : World} (h : R T N0 Z0 m0 w0 s a w) (hle : Le s s') : R T N0 Z0 m0 w0 s' a w := by
  obtain ⟨N, Z, m, ml, r, hs⟩ := h
  obtain ⟨F, hle⟩ := hle
  obtain ⟨Z', m', ml', r', hZ, hm, hms, hzz, _, _⟩ := r.le hle
  exact ⟨N, Z', m', ml', r', hs.fz hZ hm hms hzz⟩

theorem exists_least {p : Nat → Prop} (h : ∃ n, p n) : ∃ n, p n ∧ ∀ k, p k → n ≤ k := by
  obtain ⟨n, hn⟩ := h
  induction n using Nat.strongRecOn with
  | _ n ih =>
    by_cases hk : ∃ k, k < n ∧ p k
    · obtain ⟨k, hlt, hp⟩ := hk; exact ih k hlt hp
    · exact ⟨n, hn, fun k hp => by
        rcases Nat.lt_or_ge k n with h | h
        · exact absurd ⟨k, h, hp⟩ hk
        · exact h⟩

/-- **A loop**, by what holds at each round's head. -/
theorem LoopX.mk {L : LE} (hL : LayOK P L) (hLf : LayOK.Fields L) (hm : P.follows .mixedOrders = true) {gl : Nat → Bool} {dr : Nat → Option Plan} {c : Code} {s : St} {Q : Exit → St → Prop} {α : Type} (inv : α → St) (mu : α → Nat) (x0 : α)
    (hle : Le s (inv x0)) (hp : plansOK dr c = true) (h : ∀ x, vc P L T h0 gl dr c (inv x) fun e s' => match e with
      | .normal => ∃ y, mu y < mu x ∧ Le s' (inv y)
      | e => ∃ s2, Le s' s2 ∧ Q e s2) : LoopX P T h0 c s Q := by
  refine .intro ?_
  intro N0 Z0 m0 w0 hH a w hR
  let I : Act → World → Prop := fun a w => ∃ x, R T N0 Z0 m0 w0 (inv x) a w
  let p : Act → World → Nat → Prop := fun a w n => ∃ x, mu x = n ∧ R T N0 Z0 m0 w0 (inv x) a w
  have hex : ∀ a w, I a w → ∃ n, p a w n ∧ ∀ k, p a w k → n ≤ k := fun a w ⟨x, hx⟩ => exists_least ⟨mu x, x, rfl, hx⟩
  let M : Act → World → Nat := fun a w => open Classical in if h : I a w then (hex a w h).choose else 0
  have hM : ∀ a w (h : I a w), p a w (M a w) ∧ ∀ k, p a w k → M a w ≤ k := fun a w h => by
    have e : M a w = (hex a w h).choose := by simp only [M]; rw [dif_pos h]
    rw [e]; exact (hex a w h).choose_spec
  refine wp_loop I M ⟨x0, hR.le hle⟩ fun a w hI => ?_
  obtain ⟨⟨x, hx, hRx⟩, _⟩ := hM a w hI
  refine wp_mono (vc_ok hL hLf hm c (inv x) _ hp (h x) N0 Z0 m0 w0 hH a w hRx) ?_
  rintro e a' w' ⟨s', hq, hR'⟩
  cases e with
  | normal =>
    obtain ⟨y, hy, hley⟩ := hq
    have hRy := hR'.le hley
    have hI' : I a' w' := ⟨y, hRy⟩
    refine ⟨hI', ?_⟩
    have := (hM a' w' hI').2 (mu y) ⟨y, rfl, hRy⟩
    omega
  | _ =>
    obtain ⟨s2, h1, h2⟩ := hq
    exact ⟨s2, h2, hR'.le h1⟩

/-- So many rounds, one after the other. -/
noncomputable def RndX (P : Program) (L : LE) (T : Nat → Prop) (h0 : Heap) (gl : Nat → Bool) (dr : Nat → Option Plan) (c : Code) (Q : Exit → St → Prop) (n : Nat) : St → Prop :=
  Nat.rec (motive := fun _ => St → Prop) (fun _ => False)
    (fun _ ih s => vc P L T h0 gl dr c s fun e s' => match e with
      | .normal => ih s'
      | e => Q e s') n

/-- **A loop of a few rounds**, written out. -/
theorem LoopX.unroll {L : LE} (hL : LayOK P L) (hLf : LayOK.Fields L) (hm : P.follows .mixedOrders = true) {gl : Nat → Bool} {dr : Nat → Option Plan} {c : Code} {s : St} {Q : Exit → St → Prop} (n : Nat)
    (hp : plansOK dr c = true) (h : RndX P L T h0 gl dr c Q n s) : LoopX P T h0 c s Q := by
  refine .intro ?_
  intro N0 Z0 m0 w0 hH a w hR
  refine wp_loop_rounds n ?_
  induction n generalizing s a w with
  | zero => exact h.elim
  | succ n ih =>
    rw [rounds_succ]
    refine wp_mono (vc_ok hL hLf hm c s _ hp h N0 Z0 m0 w0 hH a w hR) ?_
    rintro e a' w' ⟨s', hq, hR'⟩
    cases e with
    | normal => exact ih hq a' w' hR'
    | _ => exact ⟨s', hq, hR'⟩

end

end Go.Proofs.Rv
