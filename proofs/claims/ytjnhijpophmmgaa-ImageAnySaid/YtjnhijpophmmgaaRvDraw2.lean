/- RvDraw2: the law of plans. -/
import Derived.Test.YtjnhijpophmmgaaRvDraw
set_option linter.unusedVariables false
set_option linter.unusedSimpArgs false
namespace Go.Proofs.Rv
open Go

section
variable {P : Program} {N0 : Nat} {Z0 : Nat → Prop} {m0 : Nat → Option Blk} {w0 : World} {T : Nat → Prop} {h0 : Heap}

theorem staysK0_ok {h : Heap} {dst : Option Nat} : ∀ {l : List (Nat × Pl)} {k : Prop}, staysK0 h dst l k → k ∧ (∀ i x, (i, Pl.ob x) ∈ l → h x ≠ none) ∧ ∀ i t, (i, Pl.sl t) ∈ l → dst ≠ some t
  | [], k, e => ⟨e, by simp, by simp⟩
  | (i, .ob x) :: l, k, e => by
    obtain ⟨e1, e2⟩ := Rq.get e
    obtain ⟨k1, k2, k3⟩ := staysK0_ok e2
    refine ⟨k1, fun j y hm => ?_, fun j t hm => ?_⟩
    · rcases List.mem_cons.1 hm with hm | hm
      · cases hm; exact e1
      · exact k2 j y hm
    · rcases List.mem_cons.1 hm with hm | hm
      · cases hm
      · exact k3 j t hm
  | (i, .sl t) :: l, k, e => by
    cases dst with
    | none =>
      obtain ⟨k1, k2, _⟩ := staysK0_ok (l := l) (k := k) e
      refine ⟨k1, fun j y hm => ?_, fun j u _ h => by cases h⟩
      rcases List.mem_cons.1 hm with hm | hm
      · cases hm
      · exact k2 j y hm
    | some d =>
      simp only [staysK0] at e
      split at e
      · exact e.elim
      · rename_i hb
        obtain ⟨k1, k2, k3⟩ := staysK0_ok e
        refine ⟨k1, fun j y hm => ?_, fun j u hm hd => ?_⟩
        · rcases List.mem_cons.1 hm with hm | hm
          · cases hm
          · exact k2 j y hm
        · rcases List.mem_cons.1 hm with hm | hm
          · cases hm; cases hd; simp at hb
          · exact k3 j u hm hd
  | (i, .no) :: l, k, e => by
    obtain ⟨k1, k2, k3⟩ := staysK0_ok (l := l) (k := k) e
    refine ⟨k1, fun j y hm => ?_, fun j u hm => ?_⟩
    · rcases List.mem_cons.1 hm with hm | hm
      · cases hm
      · exact k2 j y hm
    · rcases List.mem_cons.1 hm with hm | hm
      · cases hm
      · exact k3 j u hm

theorem mem_keepO {o : Oper} {i x : Nat} : ∀ {l : List (Nat × Pl)}, (i, Pl.ob x) ∈ l → dirE o i = false → x ∈ keepO o l
  | (j, .ob y) :: l, hm, hd => by
    unfold keepO
    rcases List.mem_cons.1 hm with hm | hm
    · cases hm; rw [hd]; exact List.mem_cons_self ..
    · split
      · exact mem_keepO hm hd
      · exact List.mem_cons_of_mem _ (mem_keepO hm hd)
  | (j, .sl t) :: l, hm, hd => by
    rcases List.mem_cons.1 hm with hm | hm
    · cases hm
    · exact mem_keepO (l := l) hm hd
  | (j, .no) :: l, hm, hd => by
    rcases List.mem_cons.1 hm with hm | hm
    · cases hm
    · exact mem_keepO (l := l) hm hd

theorem mem_keepS {o : Oper} {i x : Nat} : ∀ {l : List (Nat × Pl)}, (i, Pl.sl x) ∈ l → dirE o i = false → x ∈ keepS o l
  | (j, .sl y) :: l, hm, hd => by
    unfold keepS
    rcases List.mem_cons.1 hm with hm | hm
    · cases hm; rw [hd]; exact List.mem_cons_self ..
    · split
      · exact mem_keepS hm hd
      · exact List.mem_cons_of_mem _ (mem_keepS hm hd)
  | (j, .ob t) :: l, hm, hd => by
    rcases List.mem_cons.1 hm with hm | hm
    · cases hm
    · exact mem_keepS (l := l) hm hd
  | (j, .no) :: l, hm, hd => by
    rcases List.mem_cons.1 hm with hm | hm
    · cases hm
    · exact mem_keepS (l := l) hm hd

/-- What pends, in the memory. -/
def PendR (Z : Nat → Prop) (m : Nat → Option Blk) (ml : Nat → Option Nat) (pa : List (Nat × Pl)) (ps : List (Nat × (World → Prop))) : Prop :=
  ∀ p ∈ ps, ∃ (pl : Pl) (Zi PB : Nat → Prop) (wi : World), (pl = Pl.no ∨ (p.1, pl) ∈ pa) ∧ (p.2 = fun w' : World => ∀ b, (Zi b ∨ PB b) → w'.heap[b]? = wi.heap[b]?) ∧ (∀ b, Zi b → Z b) ∧ ∀ b, PB b → plB m ml pl b

section
variable {B0 N : Nat} {Z : Nat → Prop} {m : Nat → Option Blk} {ml : Nat → Option Nat} {w w' : World} {s s' : St} {a a' : Act} {N' : Nat} {Z' : Nat → Prop} {m' : Nat → Option Blk} {ml' : Nat → Option Nat}

theorem PendR.keeps (r : RR B0 N Z m ml s a w) {pa : List (Nat × Pl)} {ps : List (Nat × (World → Prop))} (hp : PendR Z m ml pa ps) {o : Oper}
    (he : Eff T h0 (fun x => x ∈ keepO o pa) (fun x => x ∈ keepS o pa) N Z m ml w N' Z' m' w') : ∀ p ∈ ps, dirE o p.1 = false → p.2 w → p.2 w' := by
  intro p hm hd hw
  obtain ⟨pl, Zi, PB, wi, h1, h2, h3, h4⟩ := hp p hm
  obtain ⟨TT, SS, e1, e2, e3⟩ := he
  rw [h2] at hw ⊢
  intro b hb
  rw [← hw b hb]
  rcases hb with hb | hb
  · exact e1.fr b (r.H.zlt b (h3 b hb)) (.inl (h3 b hb))
  · have hpl := h4 b hb
    cases pl with
    | no => exact hpl.elim
    | sl t =>
      obtain ⟨d1, d2, d3, d4, d5⟩ := r.L.dom t b hpl
      have hmem : (p.1, Pl.sl t) ∈ pa := h1.resolve_left (by simp)
      refine e1.fr b d3 (.inr ⟨fun q bb _ hq => d5 q bb hq, fun hs => ?_⟩)
      obtain ⟨t', ht', hn⟩ := e3 b hs
      have : t' = t := r.L.inj t' t b ht' hpl
      subst this
      exact hn (mem_keepS hmem hd)
    | ob x =>
      obtain ⟨bb, hx, rfl⟩ := hpl
      have hmem : (p.1, Pl.ob x) ∈ pa := h1.resolve_left (by simp)
      refine e1.fr bb.b (r.H.lt hx).2 (.inr ⟨fun q bq hq hmq e => ?_, fun hs => ?_⟩)
      · have : q = x := r.H.inj q x bq bb hmq hx e
        subst this
        exact (e2 q hq).2 (mem_keepO hmem hd)
      · obtain ⟨t', ht', _⟩ := e3 _ hs
        exact (r.L.dom t' _ ht').2.2.2.2 x bb hx rfl

theorem PendR.next (r : RR B0 N Z m ml s a w) (r' : RR B0 N' Z' m' ml' s' a' w') {pa : List (Nat × Pl)} {ps : List (Nat × (World → Prop))} (hp : PendR Z m ml pa ps) {pd pds : Nat → Prop} {dst : Option Nat}
    (he : Eff T h0 pd pds N Z m ml w N' Z' m' w') (hml : ∀ t, dst ≠ some t → ml' t = ml t) (ho : ∀ i x, (i, Pl.ob x) ∈ pa → s'.h x ≠ none) (ht : ∀ i t, (i, Pl.sl t) ∈ pa → dst ≠ some t) : PendR Z' m' ml' pa ps := by
  intro p hm
  obtain ⟨pl, Zi, PB, wi, h1, h2, h3, h4⟩ := hp p hm
  obtain ⟨TT, SS, e1, _, _⟩ := he
  refine ⟨pl, Zi, PB, wi, h1, h2, fun b hb => e1.zz b (h3 b hb), fun b hb => ?_⟩
  have hpl := h4 b hb
  cases pl with
  | no => exact hpl.elim
  | sl t =>
    have hmem : (p.1, Pl.sl t) ∈ pa := h1.resolve_left (by simp)
    show ml' t = some b
    rw [hml t (ht _ t hmem)]; exact hpl
  | ob x =>
    have hmem : (p.1, Pl.ob x) ∈ pa := h1.resolve_left (by simp)
    obtain ⟨bb, hx, hbb⟩ := hpl
    refine ⟨bb, ?_, hbb⟩
    rcases e1.mm x (r.H.lt hx).1 with h | h
    · rw [h]; exact hx
    · have := ho _ x hmem
      cases hq : s'.h x with
      | none => exact absurd hq this
      | some ob =>
        obtain ⟨b2, _, g1, _⟩ := r'.H.obj x ob hq
        rw [h] at g1; cases g1

theorem PendR.mono {pa pa' : List (Nat × Pl)} {ps : List (Nat × (World → Prop))} (hp : PendR Z m ml pa ps) (h : ∀ p ∈ pa, p ∈ pa') : PendR Z m ml pa' ps := fun p hm => by
  obtain ⟨pl, Zi, PB, wi, h1, h2⟩ := hp p hm
  exact ⟨pl, Zi, PB, wi, h1.imp id (h _), h2⟩
end

theorem plan_ok {L : LE} (hL : LayOK P L) (hLf : LayOK.Fields L) (hH : RelH N0 Z0 m0 h0 w0) {gl : Nat → Bool} {ops : Array Oper} (hsel : Region.noSelect ops = true) {K : St → Prop} :
    ∀ (plan : Plan) (listed : Array Bool) (cov : List Nat) (pa : List (Nat × Pl)) (ps : List (Nat × (World → Prop))) (s : St) (a : Act) (w : World) (N : Nat) (Z : Nat → Prop) (m : Nat → Option Blk) (ml : Nat → Option Nat),
      plan.ok ops listed cov = true → RR w0.heap.size N Z m ml s a w → Stp T (fun _ => False) N0 Z0 m0 w0 N Z m w → PendR Z m ml pa ps → vcPlan0 P L T h0 gl ops.toList K plan pa s →
      (cov = [] → ∀ fuel, plan.len ≤ fuel → wpAnyP P ops (Post T N0 Z0 m0 w0 K) fuel listed ps a w) ∧
      ((∀ i p, plan ≠ .flo i p) → plan ≠ .fin → Region.ready .any ops listed ≠ [] ∧ ∀ fuel, plan.len ≤ fuel + 1 → ∀ j ∈ Region.ready .any ops listed, cov.contains j = false →
        wpOp P ops (Post T N0 Z0 m0 w0 K) j (fun a' w' => (∀ p ∈ ps, (∀ oj, ops[j]? = some oj → dirE oj p.1 = false) → p.2 w → p.2 w') ∧ wpAnyP P ops (Post T N0 Z0 m0 w0 K) fuel (listed.setIfInBounds j true) ps a' w') a w) := by
  have hQ : ∀ (dst : Option Nat) (v : Value) c (a : Act) (w : World), Post T N0 Z0 m0 w0 K (.panic c) (a.put dst v) w → Post T N0 Z0 m0 w0 K (.panic c) a w := fun _ _ _ _ _ h => h
  intro plan
  induction plan with
  | fin =>
    intro listed cov pa ps s a w N Z m ml hok r hs hp h
    refine ⟨fun _ fuel _ => wpAnyP_done (by simpa [Plan.ok, rdyL_eq] using hok) ⟨s, h, N, Z, m, ml, r, hs⟩ fuel, fun _ hne => absurd rfl hne⟩
  | non =>
    intro listed cov pa ps s a w N Z m ml hok r hs hp h
    simp only [Plan.ok, rdyL_eq, freL_eq, Bool.and_eq_true, List.all_eq_true, Bool.not_eq_true'] at hok
    obtain ⟨h1, h2⟩ := hok
    have hne : Region.ready .any ops listed ≠ [] := fun e => by rw [e] at h2; cases h2
    refine ⟨fun hc fuel _ => ?_, fun _ _ => ⟨hne, fun fuel _ j hj hcj => ?_⟩⟩
    · subst hc
      obtain ⟨j, hj⟩ := List.exists_mem_of_ne_nil _ hne
      have := h1 j hj
      simp at this
    · rw [h1 j hj] at hcj; cases hcj
  | flo i p ih =>
    intro listed cov pa ps s a w N Z m ml hok r hs hp h
    refine ⟨fun _ fuel hf => ?_, fun hne => absurd rfl (hne i p)⟩
    simp only [Plan.ok, rdyL_eq, freL_eq, Bool.and_eq_true] at hok
    obtain ⟨⟨h1, h2⟩, h3⟩ := hok
    simp only [Plan.len] at hf
    obtain ⟨f, rfl⟩ : ∃ f, fuel = f + 1 := ⟨fuel - 1, by omega⟩
    simp only [vcPlan0] at h
    obtain ⟨o, ho, h⟩ := nthK_ok h
    have ho' : ops[i]? = some o := by simpa using ho
    have hready : i ∈ Region.ready .any ops listed := by simpa using h1
    obtain ⟨s1, r1, h⟩ := guardK_ok r h
    rcases h with ⟨hw, h⟩ | ⟨hw, h⟩
    · obtain ⟨q, v, k1, k2, k3⟩ := yld_ok hL hLf r1 h
      have k1 := putK_ok k1
      refine wpAnyP_first (v := v) (S := Same Z m ml (plOf s1 o.op) w) ho' (Region.noSelect_spec hsel) (hQ _ _) f listed ps a w (Region.free_spec ho' h2) hready (.inl ⟨hw, k3⟩) (Same.refl _ _ _ _ _) ?_
      refine (ih _ [] _ _ _ _ _ N Z m ml h3 (r1.put o.dst k2) hs ?_ k1).1 rfl f (by omega)
      intro p' hm
      rcases List.mem_cons.1 hm with hm | hm
      · subst hm
        refine ⟨plOf s1 o.op, Z, plB m ml (plOf s1 o.op), w, ?_, rfl, fun _ h => h, fun _ h => h⟩
        cases plOf s1 o.op with
        | no => exact .inl rfl
        | sl t => exact .inr (List.mem_cons_self ..)
        | ob x => exact .inr (List.mem_cons_self ..)
      · obtain ⟨pl, Zi, PB, wi, g1, g2⟩ := hp p' hm
        refine ⟨pl, Zi, PB, wi, g1.imp id fun h => ?_, g2⟩
        cases plOf s1 o.op with
        | no => exact h
        | sl t => exact List.mem_cons_of_mem _ h
        | ob x => exact List.mem_cons_of_mem _ h
    · have k1 := putK_ok h
      refine wpAnyP_first (v := undef) (S := Same Z m ml .no w) ho' (Region.noSelect_spec hsel) (hQ _ _) f listed ps a w (Region.free_spec ho' h2) hready (.inr ⟨hw, rfl⟩) (Same.refl _ _ _ _ _) ?_
      refine (ih _ [] _ _ _ _ _ N Z m ml h3 (r1.put o.dst VA.skp) hs ?_ k1).1 rfl f (by omega)
      intro p' hm
      rcases List.mem_cons.1 hm with hm | hm
      · subst hm
        exact ⟨.no, Z, plB m ml .no, w, .inl rfl, rfl, fun _ h => h, fun _ h => h⟩
      · exact hp p' hm
  | alt i p q ih1 ih2 =>
    intro listed cov pa ps s a w N Z m ml hok r hs hp h
    simp only [Plan.ok, rdyL_eq, freL_eq, Bool.and_eq_true] at hok
    obtain ⟨⟨hok0, hok1⟩, hok2⟩ := hok
    unfold vcPlan0 at h
    obtain ⟨h, hq⟩ := h
    have hq : vcPlan0 P L T h0 gl ops.toList K q pa s := by
      split at hq
      · trivial
      · exact hq
    obtain ⟨o, ho, h⟩ := nthK_ok h
    have ho' : ops[i]? = some o := by simpa using ho
    have one : ∀ fuel, p.len ≤ fuel → wpOp P ops (Post T N0 Z0 m0 w0 K) i (fun a' w' => (∀ p ∈ ps, (∀ oj, ops[i]? = some oj → dirE oj p.1 = false) → p.2 w → p.2 w') ∧ wpAnyP P ops (Post T N0 Z0 m0 w0 K) fuel (listed.setIfInBounds i true) ps a' w') a w := by
      intro fuel hf
      obtain ⟨s1, r1, h⟩ := guardK_ok r h
      unfold wpOp
      simp only [ho']
      rcases h with ⟨hw, h⟩ | ⟨hw, h⟩
      · simp only [hw, if_true]
        refine .inl (Oper.wp_mono ?_ (opA_ok hL hLf r1 h _))
        rintro a' w' ⟨s2, N', Z', m', ml', g1, gml, g2, g3⟩
        obtain ⟨k1, k2, k3⟩ := staysK0_ok g1
        refine ⟨fun p' hm hd => PendR.keeps r1 hp g3 p' hm (hd o rfl), ?_⟩
        exact (ih1 _ [] pa ps s2 a' w' N' Z' m' ml' hok1 g2 (R.after hH r1 hs g3) (hp.next r1 g2 g3 gml k2 k3) k1).1 rfl fuel hf
      · simp only [hw, Bool.false_eq_true, if_false]
        refine ⟨fun _ _ _ h => h, ?_⟩
        exact (ih1 _ [] pa ps _ _ w N Z m ml hok1 (r1.put o.dst VA.skp) hs hp (putK_ok h)).1 rfl fuel hf
    have key : Region.ready .any ops listed ≠ [] ∧ ∀ fuel, (Plan.alt i p q).len ≤ fuel + 1 → ∀ j ∈ Region.ready .any ops listed, cov.contains j = false →
        wpOp P ops (Post T N0 Z0 m0 w0 K) j (fun a' w' => (∀ p ∈ ps, (∀ oj, ops[j]? = some oj → dirE oj p.1 = false) → p.2 w → p.2 w') ∧ wpAnyP P ops (Post T N0 Z0 m0 w0 K) fuel (listed.setIfInBounds j true) ps a' w') a w := by
      have hlen : ∀ fuel, (Plan.alt i p q).len ≤ fuel + 1 → p.len ≤ fuel ∧ q.len ≤ fuel + 1 := fun fuel h => by simp only [Plan.len] at h; omega
      cases q with
      | fin => cases hok0
      | flo i' p' => cases hok0
      | non =>
        obtain ⟨k1, k2⟩ := (ih2 listed (i :: cov) pa ps s a w N Z m ml hok2 r hs hp hq).2 (by intro _ _ h; cases h) (by intro h; cases h)
        refine ⟨k1, fun fuel hf j hj hcj => ?_⟩
        by_cases e : j = i
        · subst e; exact one fuel (hlen fuel hf).1
        · exact k2 fuel (hlen fuel hf).2 j hj (by simp [List.contains_cons, e]; simpa using hcj)
      | alt i' p' q' =>
        obtain ⟨k1, k2⟩ := (ih2 listed (i :: cov) pa ps s a w N Z m ml hok2 r hs hp hq).2 (by intro _ _ h; cases h) (by intro h; cases h)
        refine ⟨k1, fun fuel hf j hj hcj => ?_⟩
        by_cases e : j = i
        · subst e; exact one fuel (hlen fuel hf).1
        · exact k2 fuel (hlen fuel hf).2 j hj (by simp [List.contains_cons, e]; simpa using hcj)
    refine ⟨fun hc fuel hf => ?_, fun _ _ => key⟩
    have : 1 ≤ (Plan.alt i p q).len := by simp only [Plan.len]; omega
    obtain ⟨f, rfl⟩ : ∃ f, fuel = f + 1 := ⟨fuel - 1, by omega⟩
    exact ⟨fun e => absurd e key.1, fun j hj => key.2 f hf j hj (by rw [hc]; rfl)⟩

end

end Go.Proofs.Rv
