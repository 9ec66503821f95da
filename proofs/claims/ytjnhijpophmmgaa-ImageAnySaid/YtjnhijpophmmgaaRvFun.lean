/- RvFun: a function's contract, out of its body. -/
import Derived.Test.YtjnhijpophmmgaaRvVc
import Derived.KernelRfl
import Derived.Defers
set_option linter.unusedVariables false
set_option linter.unusedSimpArgs false
namespace Go.Proofs.Rv
open Go

/-- The end: what the function made beside its answer is given up. -/
structure Fin (h : Heap) (K : AV → Heap → Prop) (v : AV) : Prop where intro ::
  out : ∃ F v' h', AFz F h v v' ∧ HFz F h h' ∧ K v' h'
theorem Fin.fz {h : Heap} {K : AV → Heap → Prop} {v : AV} (F : Nat → Prop) (v' : AV) (h' : Heap) (hv : AFz F h v v') (hl : HFz F h h') (hk : K v' h') : Fin h K v := by refine .intro ?_; exact ⟨F, v', h', hv, hl, hk⟩
theorem Fin.get {h : Heap} {K : AV → Heap → Prop} {v : AV} (e : Fin h K v) : ∃ F v' h', AFz F h v v' ∧ HFz F h h' ∧ K v' h' := e.out
theorem Fin.mk {h : Heap} {K : AV → Heap → Prop} {v : AV} (h' : Heap) (hl : ∀ o ob, h' o = some ob → h o = some ob) (hk : K v h') : Fin h K v := Fin.fz (fun _ => False) v h' (.refl v) (HFz.sub fun o ob ho => ⟨id, hl o ob ho⟩) hk
theorem Fin.same {h : Heap} {K : AV → Heap → Prop} {v : AV} (hk : K v h) : Fin h K v := Fin.mk h (fun _ _ h => h) hk

theorem Fin.tt {h : Heap} {K : AV → Heap → Prop} (hk : K (.d (.bool true)) h) : Fin h K .tt := Fin.fz (fun _ => False) _ h .tt (HFz.sub fun _ _ ho => ⟨id, ho⟩) hk
theorem Fin.ff {h : Heap} {K : AV → Heap → Prop} (hk : K (.d (.bool false)) h) : Fin h K .ff := Fin.fz (fun _ => False) _ h .ff (HFz.sub fun _ _ ho => ⟨id, ho⟩) hk

theorem Fin.acc {hb : Heap} {c : Option Nat} {n e es : Nat} {cells : List FV} {K : AV → Heap → Prop} (ok : AccOK hb c n cells) (hk : K (.d (.lst n cells)) hb) : Fin (accH hb c ⟨cells, e, es, false, true⟩) K (.d (.acc c n)) :=
  Fin.fz _ _ _ (.d (Fz.accL ok)) (HFz.acc ok) hk
theorem Fin.nil {h : Heap} {K : AV → Heap → Prop} (hk : K (.d (.lst 0 [])) h) : Fin h K (.d .nils) := Fin.fz (fun _ => False) _ h (.d .nilL) (HFz.sub fun _ _ ho => ⟨id, ho⟩) hk
theorem Fin.nilA {h : Heap} {K : AV → Heap → Prop} (hk : K (.d (.acc none 0)) h) : Fin h K (.d .nils) := Fin.fz (fun _ => False) _ h (.d .nilA) (HFz.sub fun _ _ ho => ⟨id, ho⟩) hk
theorem Fin.refA {h : Heap} {K : AV → Heap → Prop} {o n : Nat} (hk : K (.d (.acc (some o) n)) h) : Fin h K (.d (.ref o 0 n)) := Fin.fz (fun _ => False) _ h (.d (.refA o n)) (HFz.sub fun _ _ ho => ⟨id, ho⟩) hk
theorem AFz.tup2 {F : Nat → Prop} {h : Heap} {x y x' y' : AV} (hx : AFz F h x x') (hy : AFz F h y y') : AFz F h (.tup [x, y]) (.tup [x', y']) := .tup _ _ rfl fun i u v hu hv => by
  match i, hu, hv with
  | 0, hu, hv => cases hu; cases hv; exact hx
  | 1, hu, hv => cases hu; cases hv; exact hy

def resK (L : LE) (s : St) : List ResultVar → (List AV → Prop) → Prop
  | [], k => k []
  | .tmp t :: rs, k => fc (evA s.tm (.tmp t)) fun v => resK L s rs fun vs => k (v :: vs)
  | .cell x t :: rs, k => ldA L s t (evA s.tm (.tmp x)) fun v => resK L s rs fun vs => k (v :: vs)

def retK0 (L : LE) (rs : List ResultVar) (s : St) (K : AV → Heap → Prop) : Prop :=
  resK L s rs fun vs => match AV.cleanAll vs with
    | false => False
    | true => match vs with
      | [v] => Fin s.h K v
      | vs => Fin s.h K (.tup vs)

def retK (L : LE) (rs : List ResultVar) (s : St) (K : AV → Heap → Prop) : Prop :=
  match s with
  | ⟨tm, loc, hp⟩ =>
    resK L ⟨tm, loc, hp⟩ rs fun vs => match AV.cleanAll vs with
      | false => False
      | true => match vs with
        | [v] => Fin hp K v
        | vs => Fin hp K (.tup vs)

theorem retK_old (L : LE) (rs : List ResultVar) (s : St) (K : AV → Heap → Prop) (hx_ : retK L rs s K) : retK0 L rs s K := by
  have e : (retK L rs s K) = (retK0 L rs s K) := by cases s; kernel_rfl
  exact e ▸ hx_
theorem retK_new (L : LE) (rs : List ResultVar) (s : St) (K : AV → Heap → Prop) (hx_ : retK0 L rs s K) : retK L rs s K := by
  have e : (retK0 L rs s K) = (retK L rs s K) := by cases s; kernel_rfl
  exact e ▸ hx_

def repK : Nat → (List AV → Prop) → Prop
  | 0, k => k []
  | n + 1, k => repK n fun xs => k (.undef :: xs)

def appA' : List AV → List AV → (List AV → Prop) → Prop
  | [], ys, k => k ys
  | x :: xs, ys, k => appA' xs ys fun zs => k (x :: zs)

theorem repK_ok : ∀ {n : Nat} {k : List AV → Prop}, repK n k → k (List.replicate n .undef)
  | 0, _, h => h
  | n + 1, k, h => repK_ok (n := n) (k := fun xs => k (.undef :: xs)) h

theorem appA'_ok : ∀ {xs ys : List AV} {k : List AV → Prop}, appA' xs ys k → k (xs ++ ys)
  | [], _, _, h => h
  | x :: xs, ys, k, h => appA'_ok (xs := xs) (ys := ys) (k := fun zs => k (x :: zs)) h

/-- Temporaries, and what is deferred. -/
def splitD : List AV → (List AV → List AV → Prop) → Prop
  | [], k => k [] []
  | x :: xs, k => match x with
    | .dfr f ys => k [] (.dfr f ys :: xs)
    | x => splitD xs fun a b => k (x :: a) b

/-- The contract of a function that is deferred. -/
def CD (P : Program) (T : Nat → Prop) (f : FuncId) (args : List AV) (h : Heap) (K : AV → Heap → Prop) : Prop :=
  FnOK P f ∧ ∀ (N : Nat) (Z : Nat → Prop) (m : Nat → Option Blk) (w : World) (vals : Array Value), RelH N Z m h w → vals.size = args.length →
    (∀ (i : Nat) (x : AV) (v : Value), args[i]? = some x → vals[i]? = some v → VA N Z m (fun _ => none) w x v) →
    CallsD P f vals .returning w fun e u w' => u = .returning ∧ ∃ v r h' N' Z' m', e = .returned v ∧ K r h' ∧ AV.clean r = true ∧ RelH N' Z' m' h' w' ∧ VA N' Z' m' (fun _ => none) w' r v ∧
      Stp T (fun _ => False) N Z m w N' Z' m' w'

structure CallD (P : Program) (T : Nat → Prop) (h0 : Heap) (f : FuncId) (args : List AV) (h : Heap) (K : AV → Heap → Prop) : Prop where intro ::
  out : ∃ T', (∀ o, T' o → T o ∨ h0 o = none) ∧ CD P T' f args h K
theorem CallD.mk {P : Program} {T : Nat → Prop} {h0 : Heap} {f : FuncId} {args : List AV} {h : Heap} {K : AV → Heap → Prop} (T' : Nat → Prop) (hT : ∀ o, T' o → T o ∨ h0 o = none) (hc : CD P T' f args h K) :
    CallD P T h0 f args h K := by refine .intro ?_; exact ⟨T', hT, hc⟩

noncomputable def runD (P : Program) (T : Nat → Prop) (h0 : Heap) (ds : List AV) : Heap → (Heap → Prop) → Prop :=
  List.rec (motive := fun _ => Heap → (Heap → Prop) → Prop) (fun h K => K h)
    (fun x _ ih h K => match x with
      | .dfr f xs => match AV.cleanAll xs with
        | true => CallD P T h0 f xs h fun _ h' => ih h' K
        | false => False
      | _ => False) ds

noncomputable def endK0 (P : Program) (L : LE) (T : Nat → Prop) (h0 : Heap) (rs : List ResultVar) (K : AV → Heap → Prop) (s : St) : Prop :=
  splitD s.tm fun tm ds => runD P T h0 ds s.h fun h' => retK L rs ⟨tm, s.loc, h'⟩ K

/-- The end of a function. -/
noncomputable def endK (P : Program) (L : LE) (T : Nat → Prop) (h0 : Heap) (rs : List ResultVar) (K : AV → Heap → Prop) (s : St) : Prop :=
  match s with
  | ⟨tm, loc, hp⟩ =>
    splitD tm fun tm ds => runD P T h0 ds hp fun h' => retK L rs ⟨tm, loc, h'⟩ K

theorem endK_old (P : Program) (L : LE) (T : Nat → Prop) (h0 : Heap) (rs : List ResultVar) (K : AV → Heap → Prop) (s : St) (hx_ : endK P L T h0 rs K s) : endK0 P L T h0 rs K s := by
  have e : (endK P L T h0 rs K s) = (endK0 P L T h0 rs K s) := by cases s; kernel_rfl
  exact e ▸ hx_
theorem endK_new (P : Program) (L : LE) (T : Nat → Prop) (h0 : Heap) (rs : List ResultVar) (K : AV → Heap → Prop) (s : St) (hx_ : endK0 P L T h0 rs K s) : endK P L T h0 rs K s := by
  have e : (endK0 P L T h0 rs K s) = (endK P L T h0 rs K s) := by cases s; kernel_rfl
  exact e ▸ hx_

def endQ0 (L : LE) (rs : List ResultVar) (K : AV → Heap → Prop) (s : St) : Prop :=
  splitD s.tm fun tm ds => match ds with
    | [] => retK L rs ⟨tm, s.loc, s.h⟩ K
    | _ :: _ => False

/-- The end of one that defers nothing. -/
def endQ (L : LE) (rs : List ResultVar) (K : AV → Heap → Prop) (s : St) : Prop :=
  match s with
  | ⟨tm, loc, hp⟩ =>
    splitD tm fun tm ds => match ds with
      | [] => retK L rs ⟨tm, loc, hp⟩ K
      | _ :: _ => False

theorem endQ_old (L : LE) (rs : List ResultVar) (K : AV → Heap → Prop) (s : St) (hx_ : endQ L rs K s) : endQ0 L rs K s := by
  have e : (endQ L rs K s) = (endQ0 L rs K s) := by cases s; kernel_rfl
  exact e ▸ hx_
theorem endQ_new (L : LE) (rs : List ResultVar) (K : AV → Heap → Prop) (s : St) (hx_ : endQ0 L rs K s) : endQ L rs K s := by
  have e : (endQ0 L rs K s) = (endQ L rs K s) := by cases s; kernel_rfl
  exact e ▸ hx_

/-- A function's body, from its arguments on. -/
noncomputable def bodyK (P : Program) (L : LE) (T : Nat → Prop) (gl : Nat → Bool) (dr : Nat → Option Plan) (c : Code) (n : Nat) (args : List AV) (h : Heap) (ek : St → Prop) : Prop :=
  repK n fun us => appA' args us fun tm => vc P L T h gl dr c ⟨tm, [], h⟩ fun e s => match e with
    | .normal => ek s
    | .ret => ek s
    | _ => False

section
variable {P : Program} {T : Nat → Prop}

def resF (tmps : Array Value) : ResultVar → Sem Value
  | .tmp t => pure (tmps.getD t undef)
  | .cell a t => do loadVar t (← asAddr (tmps.getD a undef))

theorem ldA_ptr {L : LE} {N : Nat} {Z : Nat → Prop} {m : Nat → Option Blk} {ml : Nat → Option Nat} {w : World} {s : St} {t : TypeId} {p : AV} {vp : Value} (hp : VA N Z m ml w p vp) {k : AV → Prop} (h : ldA L s t p k) : ∃ a, vp = .pointer (some a) := by
  replace h := ldA_old _ _ _ _ _ h
  unfold ldA0 at h
  split at h
  · exact h.elim
  · split at h
    · cases hp; exact ⟨_, rfl⟩
    · cases hp; rename_i hp; cases hp; exact ⟨_, rfl⟩
    · cases hp; rename_i hp; cases hp; exact ⟨_, rfl⟩
    · exact h.elim

theorem resK_ok {L : LE} (hL : LayOK P L) {B0 N : Nat} {Z : Nat → Prop} {m : Nat → Option Blk} {ml : Nat → Option Nat} {w : World} {s : St} {a : Act} (r : RR B0 N Z m ml s a w) :
    ∀ (rs : List ResultVar) (k : List AV → Prop), resK L s rs k → ∃ qs vs, k qs ∧ (rs.mapM (resF a.tmps)).run P w = .ok vs w ∧ vs.length = qs.length ∧ ∀ (i : Nat) (x : AV) (v : Value), qs[i]? = some x → vs[i]? = some v → VA N Z m ml w x v
  | [], k, h => ⟨[], [], h, by simp, rfl, by simp⟩
  | .tmp t :: rs, k, h => by
    simp only [resK] at h
    obtain ⟨qs, vs, h1, h2, h3, h4⟩ := resK_ok hL r rs _ (fc_ok h)
    have hv := r.T.ev (.tmp t)
    refine ⟨_, a.eval (.tmp t) :: vs, h1, ?_, by simp [h3], fun i => ?_⟩
    · simp [List.mapM_cons, resF, h2, Act.eval]
    · cases i with
      | zero => intro x v hx hu; simp at hx hu; subst hx hu; exact hv
      | succ i => intro x v hx hu; simp at hx hu; exact h4 i x v hx hu
  | .cell x t :: rs, k, h => by
    simp only [resK] at h
    have hv := r.T.ev (.tmp x)
    obtain ⟨q, v, g1, g2, g3⟩ := ldA_ok hL r hv h
    obtain ⟨qs, vs, h1, h2, h3, h4⟩ := resK_ok hL r rs _ g1
    have hrun := g3 w (Same.refl _ _ _ _ _)
    have hptr : ∃ p, a.eval (.tmp x) = .pointer (some p) := ldA_ptr hv h
    obtain ⟨p, hp⟩ := hptr
    refine ⟨_, v :: vs, h1, ?_, by simp [h3], fun i => ?_⟩
    · rw [hp] at hrun
      have hp' : a.tmps.getD x undef = .pointer (some p) := hp
      have hrun' : (loadVar t p).run P w = .ok v w := by simpa [Instr.loadAt, Instr.sureAddr] using hrun
      have h0 : (resF a.tmps (.cell x t)).run P w = .ok v w := by simp only [resF, hp']; simp [asAddr, hrun']
      simp [List.mapM_cons, h0, h2]
    · cases i with
      | zero => intro y u hy hu; simp at hy hu; subst hy hu; exact g2
      | succ i => intro y u hy hu; simp at hy hu; exact h4 i y u hy hu

def retV : List Value → Value
  | [v] => v
  | vs => .tuple vs.toArray

theorem results_run {fn : Func} {rs : List ResultVar} (hr : fn.results.toList = rs) {tmps : Array Value} {w : World} {vs : List Value} (h : (rs.mapM (resF tmps)).run P w = .ok vs w) :
    (results fn tmps).run P w = .ok (retV vs) w := by
  have hM : (fn.results.mapM (resF tmps)).run P w = .ok vs.toArray w := by
    rw [← Array.toArray_toList (xs := fn.results), hr, List.mapM_toArray]
    simp [h]
  unfold results
  show ((fn.results.mapM (resF tmps)).bind _).run P w = _
  have : ∀ f : Array Value → Sem Value, ((fn.results.mapM (resF tmps)).bind f).run P w = (f vs.toArray).run P w := fun f => by
    have := Sem.run_bind (P := P) (w := w) (fn.results.mapM (resF tmps)) f
    rw [hM] at this
    exact this
  rw [this]
  match vs with
  | [] => simp [retV]
  | [v] => simp [retV]
  | v :: u :: vs => simp [retV]

theorem splitD_ok : ∀ {tm : List AV} {k : List AV → List AV → Prop}, splitD tm k → ∃ pre ds, tm = pre ++ ds ∧ k pre ds ∧ (∀ x ∈ pre, AV.isD x = false) ∧ (ds = [] ∨ ∃ f xs t, ds = .dfr f xs :: t)
  | [], k, h => ⟨[], [], rfl, h, by simp, .inl rfl⟩
  | x :: xs, k, h => by
    unfold splitD at h
    split at h
    · rename_i f ys; exact ⟨[], _, rfl, h, by simp, .inr ⟨f, ys, xs, rfl⟩⟩
    · rename_i hne
      obtain ⟨pre, ds, e, h1, h2, h3⟩ := splitD_ok (tm := xs) h
      refine ⟨x :: pre, ds, by rw [e]; rfl, h1, fun y hy => ?_, h3⟩
      rcases List.mem_cons.1 hy with hy | hy
      · subst hy; cases y <;> first | rfl | exact absurd rfl (hne _ _)
      · exact h2 y hy

theorem RelT.pre {N : Nat} {Z : Nat → Prop} {m : Nat → Option Blk} {ml : Nat → Option Nat} {w : World} {a : Act} {pre ds : List AV} (r : RelT N Z m ml (pre ++ ds) a w) (h1 : ∀ x ∈ pre, AV.isD x = false)
    (h2 : ds = [] ∨ ∃ f xs t, ds = .dfr f xs :: t) : pre.length = a.tmps.size := by
  have hsz := r.size
  have hle : pre.length ≤ a.tmps.size := by
    rcases Nat.eq_zero_or_pos pre.length with h0 | h0
    · omega
    · have hi : pre.length - 1 < pre.length := by omega
      have hx : (pre ++ ds)[pre.length - 1]? = some pre[pre.length - 1] := by rw [List.getElem?_append_left hi]; exact List.getElem?_eq_getElem hi
      rcases r.pos hx with ⟨h, _⟩ | ⟨_, f, xs, e⟩
      · omega
      · have := h1 _ (List.getElem_mem hi)
        rw [e] at this; cases this
  rcases h2 with rfl | ⟨f, xs, t, rfl⟩
  · simp at hsz; omega
  · rcases r.pos (i := pre.length) (x := .dfr f xs) (by simp) with ⟨_, h⟩ | ⟨h, _⟩
    · exact absurd rfl (h f xs)
    · omega

/-- What a call comes to. -/
def PostC (T : Nat → Prop) (N : Nat) (Z : Nat → Prop) (m : Nat → Option Blk) (w : World) (K : AV → Heap → Prop) : Ending → World → Prop := fun e w' =>
  ∃ v r h' N' Z' m', e = .returned v ∧ K r h' ∧ AV.clean r = true ∧ RelH N' Z' m' h' w' ∧ VA N' Z' m' (fun _ => none) w' r v ∧ Stp T (fun _ => False) N Z m w N' Z' m' w'

theorem ret_ok {L : LE} (hL : LayOK P L) {fn : Func} {rs : List ResultVar} (hr : fn.results.toList = rs) {N0 : Nat} {Z0 : Nat → Prop} {m0 : Nat → Option Blk} {w0 : World} {K : AV → Heap → Prop} {B0 N : Nat} {Z : Nat → Prop} {m : Nat → Option Blk} {ml : Nat → Option Nat} {w : World}
    {s : St} {a : Act} (r : RR B0 N Z m ml s a w) (hst : Stp T (fun _ => False) N0 Z0 m0 w0 N Z m w) (hret : retK L rs s K) : ∃ v, (results fn a.tmps).run P w = .ok v w ∧ PostC T N0 Z0 m0 w0 K (.returned v) w := by
  replace hret := retK_old _ _ _ _ hret
  unfold retK0 at hret
  obtain ⟨qs, vs, h1, h2, h3, h4⟩ := resK_ok hL r rs _ hret
  have hrun := results_run hr h2
  refine ⟨_, hrun, ?_⟩
  split at h1
  · exact h1.elim
  · rename_i hcl'
    have fin : ∀ (q : AV) (v : Value), AV.clean q = true → VA N Z m ml w q v → Fin s.h K q → PostC T N0 Z0 m0 w0 K (.returned v) w := by
      intro q v hq hv hfin
      obtain ⟨F, q', h', hf, hl, hK⟩ := hfin.get
      obtain ⟨Z2, m2, g1, g2, g3, g4, g5, g6⟩ := r.H.fz hl
      exact ⟨v, q', h', N, Z2, m2, rfl, hK, hf.clean hq, g1, AFz.va g2 g3 g6 (fun _ _ h => h) hf (hv.clean hq), hst.fz g2 g3 g4 g5⟩
    split at h1
    · rename_i q
      have hvs : ∃ v, vs = [v] := by
        match vs, h3 with
        | [v], _ => exact ⟨v, rfl⟩
      obtain ⟨v, rfl⟩ := hvs
      exact fin q v (by simpa [AV.cleanAll] using hcl') (h4 0 q v rfl rfl) h1
    · rename_i qs' hne
      have hvs : ∀ v, vs ≠ [v] := fun v e => by
        subst e
        match qs, h3 with
        | [q], _ => exact hne q rfl
      have e : retV vs = .tuple vs.toArray := by
        unfold retV
        split
        · rename_i v; exact absurd rfl (hvs v)
        · rfl
      rw [e]
      exact fin (.tup qs) _ (by simpa [AV.clean] using hcl') (.tup qs vs.toArray (by simpa using h3) fun i x v hx hv => h4 i x v hx (by simpa using hv)) h1

/-- The deferred calls, one after the other, and then the results. -/
theorem leaves_ok {L : LE} (hL : LayOK P L) {fn : Func} {rs : List ResultVar} (hr : fn.results.toList = rs) {N0 : Nat} {Z0 : Nat → Prop} {m0 : Nat → Option Blk} {w0 : World} {h0 : Heap} (hH : RelH N0 Z0 m0 h0 w0) {K : AV → Heap → Prop} :
    ∀ (Ds pre : List AV) (loc : List (Nat × List FV)) (h : Heap) (a : Act) (w : World) (N : Nat) (Z : Nat → Prop) (m : Nat → Option Blk) (ml : Nat → Option Nat), pre.length = a.tmps.size → RR w0.heap.size N Z m ml ⟨pre ++ Ds, loc, h⟩ a w →
    Stp T (fun _ => False) N0 Z0 m0 w0 N Z m w → runD P T h0 Ds h (fun h' => retK L rs ⟨pre, loc, h'⟩ K) → Leaves P fn a.tmps (PostC T N0 Z0 m0 w0 K) a.defers .returning w
  | [], pre, loc, h, a, w, N, Z, m, ml, hpre, r, hst, hk => by
    have hd : a.defers = [] := by
      have := r.T.size
      simp at this
      exact List.eq_nil_of_length_eq_zero (by omega)
    rw [hd]
    simp only [List.append_nil] at r
    exact ret_ok hL hr r hst hk
  | x :: Ds, pre, loc, h, a, w, N, Z, m, ml, hpre, r, hst, hk => by
    replace hk : (match (generalizing := false) x with
      | .dfr f xs => match AV.cleanAll xs with
        | true => CallD P T h0 f xs h fun _ h' => runD P T h0 Ds h' (fun h' => retK L rs ⟨pre, loc, h'⟩ K)
        | false => False
      | _ => False) := hk
    split at hk
    · rename_i f xs
      split at hk
      · rename_i hcl
        obtain ⟨T', hT, ⟨fn', f1, f2, f3⟩, hc⟩ := hk.out
        have hsz := r.T.size
        simp at hsz
        obtain ⟨tmps, defers⟩ := a
        cases defers with
        | nil => simp at hsz hpre; omega
        | cons d ds =>
          obtain ⟨g, ys, vs, e1, e2, e3, e4⟩ := r.T.dfr 0 d rfl
          simp only [Nat.add_zero] at e1
          rw [← hpre] at e1
          simp at e1
          obtain ⟨rfl, rfl⟩ := e1
          subst e2
          refine leaves_cons (f := f) (args := vs) (by simp) (by have := call_run (w := w) f1 f2 f3 vs; simpa [invoke] using this) (CallsD.mono (hc N Z m w vs r.H e3 fun i x v hx hv => (e4 i x v hx hv).clean (AV.cleanAll_get hcl hx)) ?_)
          rintro e u' w' ⟨rfl, v, q, h', N', Z', m', rfl, k1, k2, k3, k4, k5⟩
          have r1 := r.call k3 k5
          have hst' := hst.trans k5 (fun o ho => (hT o ho).imp id (hH.non o)) (fun _ h => h.elim)
          refine leaves_ok hL hr hH Ds pre loc h' ⟨tmps, ds⟩ w' N' Z' m' ml hpre ⟨r1.H, r1.L, ⟨by simp at hsz hpre ⊢; omega, fun i x v hx hv => ?_, fun i d hd => ?_⟩, r1.B⟩ hst' k1
          · have hi : i < pre.length := by rw [hpre]; exact (Array.getElem?_eq_some_iff.1 hv).1
            refine r1.T.get i x v ?_ hv
            rw [List.getElem?_append_left hi] at hx ⊢
            exact hx
          · obtain ⟨g, ys, us, i1, i2⟩ := r1.T.dfr (i + 1) d (by simpa using hd)
            refine ⟨g, ys, us, ?_, i2⟩
            simp only at i1 ⊢
            rw [List.getElem?_append_right (by simp only at hpre; omega)] at i1 ⊢
            rw [show tmps.size + (i + 1) - pre.length = (tmps.size + i - pre.length) + 1 by simp only at hpre; omega, List.getElem?_cons_succ] at i1
            exact i1
      · exact hk.elim
    · exact hk.elim

section
variable {L : LE} {gl : Nat → Bool} {dr : Nat → Option Plan} {f : FuncId} {fn : Func}

theorem body_wp (hL : LayOK P L) (hLf : LayOK.Fields L) (hm : P.follows .mixedOrders = true) (c : Code) (n : Nat) (hnt : fn.ntmps = n) (hp : plansOK dr c = true) {args : List AV} {h : Heap} {ek : St → Prop} (hcl : AV.cleanAll args = true)
    (hk : bodyK P L T gl dr c (n - args.length) args h ek) {N : Nat} {Z : Nat → Prop} {m : Nat → Option Blk} {w : World} {vals : Array Value} (hH : RelH N Z m h w) (hs : vals.size = args.length)
    (ha : ∀ (i : Nat) (x : AV) (v : Value), args[i]? = some x → vals[i]? = some v → VA N Z m (fun _ => none) w x v) :
    c.wp P (fun e a' w' => (e = .normal ∨ e = .ret) ∧ ∃ s', ek s' ∧ R T N Z m w s' a' w') { tmps := vals ++ Array.replicate (fn.ntmps - vals.size) undef, defers := [] } w := by
  have hvc := appA'_ok (repK_ok hk)
  have hR : R T N Z m w ⟨args ++ List.replicate (n - args.length) .undef, [], h⟩ { tmps := vals ++ Array.replicate (fn.ntmps - vals.size) undef, defers := [] } w := by
    refine ⟨N, Z, m, fun _ => none, ⟨hH, ⟨fun t cs hc => (by simp [lkL] at hc), fun t b hb => (nomatch hb), fun t t' b h1 _ => (nomatch h1)⟩, ⟨by simp [hs, hnt], fun i x v hx hv => ?_, fun i d hd => (by simp at hd)⟩, Nat.le_refl _⟩, Stp.refl _ _ _ _ _ _⟩
    rw [List.getElem?_append] at hx
    rw [Array.getElem?_append] at hv
    rw [← hs] at hx
    split at hx
    · rename_i hlt
      rw [if_pos hlt] at hv
      exact VA.clean (ha i x v hx hv) (AV.cleanAll_get hcl hx)
    · rename_i hlt
      have hx' := List.mem_of_getElem? hx
      rw [List.mem_replicate] at hx'
      rw [hx'.2]; exact .undef _
  refine wp_mono (vc_ok hL hLf hm c _ _ hp hvc N Z m w hH _ w hR) ?_
  rintro e a' w' ⟨s', hq, hR'⟩
  cases e with
  | normal => exact ⟨.inl rfl, s', hq, hR'⟩
  | ret => exact ⟨.inr rfl, s', hq, hR'⟩
  | _ => exact hq.elim

/-- **A function's contract, out of its body.** -/
theorem C.of_body (hL : LayOK P L) (hLf : LayOK.Fields L) (hm : P.follows .mixedOrders = true) (c : Code) (n : Nat) (rs : List ResultVar)
    (hf : P.funcs[f]? = some fn) (hname : (fn.name == "runtime.NumGoroutine") = false) (hb : fn.body = some c) (hnt : fn.ntmps = n) (hr : fn.results.toList = rs) (hp : plansOK dr c = true)
    {args : List AV} {h : Heap} {K : AV → Heap → Prop} (hcl : AV.cleanAll args = true) (hk : bodyK P L T gl dr c (n - args.length) args h (endK P L T h rs K)) : C P T f args h K := by
  refine ⟨⟨fn, hf, hname, by rw [hb]; rfl⟩, fun N Z m w vals hH hs ha => ?_⟩
  refine calls_of_wp_defers hf hb (wp_mono (body_wp hL hLf hm c n hnt hp hcl hk hH hs ha) ?_)
  rintro e a' w' ⟨he, s', hq, N', Z', m', ml', r, hst⟩
  have key : Leaves P fn a'.tmps (PostC T N Z m w K) a'.defers .returning w' := by
    obtain ⟨pre, ds, e1, e2, e3, e4⟩ := splitD_ok (endK_old _ _ _ _ _ _ _ hq)
    have hT : RelT N' Z' m' ml' (pre ++ ds) a' w' := e1 ▸ r.T
    exact leaves_ok hL hr hH ds pre s'.loc s'.h a' w' N' Z' m' ml' (hT.pre e3 e4) ⟨r.H, r.L, hT, r.B⟩ hst e2
  rcases he with rfl | rfl <;> exact key

/-- The same, of one that is deferred. -/
theorem CD.of_body (hL : LayOK P L) (hLf : LayOK.Fields L) (hm : P.follows .mixedOrders = true) (c : Code) (n : Nat) (rs : List ResultVar)
    (hf : P.funcs[f]? = some fn) (hname : (fn.name == "runtime.NumGoroutine") = false) (hb : fn.body = some c) (hnt : fn.ntmps = n) (hr : fn.results.toList = rs) (hp : plansOK dr c = true)
    {args : List AV} {h : Heap} {K : AV → Heap → Prop} (hcl : AV.cleanAll args = true) (hk : bodyK P L T gl dr c (n - args.length) args h (endQ L rs K)) : CD P T f args h K := by
  refine ⟨⟨fn, hf, hname, by rw [hb]; rfl⟩, fun N Z m w vals hH hs ha => ?_⟩
  refine CallsD.mono (callsD_of_wp (R := PostC T N Z m w K) hf hb (wp_mono (body_wp hL hLf hm c n hnt hp hcl hk hH hs ha) ?_)) (fun e u w' h => h)
  rintro e a' w' ⟨he, s', hq, N', Z', m', ml', r, hst⟩
  have key : a'.defers = [] ∧ ∃ v, (results fn a'.tmps).run P w' = .ok v w' ∧ PostC T N Z m w K (.returned v) w' := by
    obtain ⟨pre, ds, e1, e2, e3, e4⟩ := splitD_ok (endQ_old _ _ _ _ hq)
    have hT : RelT N' Z' m' ml' (pre ++ ds) a' w' := e1 ▸ r.T
    have hlen := hT.pre e3 e4
    split at e2
    · have hsz := hT.size
      simp at hsz
      simp only [List.append_nil] at hT
      exact ⟨List.eq_nil_of_length_eq_zero (by omega), ret_ok hL hr (s := ⟨pre, s'.loc, s'.h⟩) ⟨r.H, r.L, hT, r.B⟩ hst e2⟩
    · exact e2.elim
  rcases he with rfl | rfl <;> exact key

end

end

end Go.Proofs.Rv
