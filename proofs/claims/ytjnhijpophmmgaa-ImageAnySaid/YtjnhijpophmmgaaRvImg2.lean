/- RvImg2: what functions of the program that the law reaches compute, each stated as a contract, for the law ImageAny. -/
import Derived.Test.YtjnhijpophmmgaaRvImg1
set_option linter.unusedVariables false
set_option linter.unusedSimpArgs false
namespace Go.Proofs.Ytjnhijpophmmgaa
open Go Go.Proofs.Rv
set_option maxRecDepth 20000

theorem _root_.Go.Proofs.Rv.AFz.tup3 {F : Nat → Prop} {h : Heap} {x y z x' y' z' : AV} (hx : AFz F h x x') (hy : AFz F h y y') (hz : AFz F h z z') : AFz F h (.tup [x, y, z]) (.tup [x', y', z']) := .tup _ _ rfl fun i u v hu hv => by
  match i with
  | 0 => simp at hu hv; subst hu hv; exact hx
  | 1 => simp at hu hv; subst hu hv; exact hy
  | 2 => simp at hu hv; subst hu hv; exact hz
  | _ + 3 => simp at hu

theorem getP_eats (b : List UInt8) : Eats ⟨b, 0, 0⟩ (getP b).2 (cfB (getP b).1) := by
  have h := (Rd.int_eats ⟨b, 0, 0⟩ (-wM) wM).1.trans ((Rd.int_eats _ (-wM) wM).1.trans ((Rd.int_eats _ (-wM) wM).1.trans ((Rd.int_eats _ (-wM) wM).1.trans ((Rd.int_eats _ (-wM) wM).1.trans ((Rd.int_eats _ (-wM) wM).1.trans
    ((Rd.int_eats _ (-wM) wM).1.trans ((Rd.int_eats _ (-wM) wM).1.trans ((Rd.int_eats _ (-wM) wM).1.trans ((Rd.int_eats _ (-wM) wM).1.trans (Rd.int_eats _ (-wM) wM).1)))))))))
  simp only [← List.append_assoc] at h
  exact h

theorem get_cfB (b : List UInt8) (h : getE b = 0) : b = cfB (getP b).1 := by
  have e := getP_eats b
  unfold getE at h
  split at h
  · cases h
  · rename_i hh
    obtain ⟨h1, h2⟩ := e.e h
    have hl : b.length ≤ (getP b).2.at_ := Nat.not_lt.1 fun hc => hh ⟨h, hc⟩
    have : (getP b).2.rest = [] := List.drop_of_length_le (by rw [e.b]; exact hl)
    rw [this, List.append_nil] at h2
    exact h2

/-- An image that may be. -/
structure Img (b : List UInt8) (c : Cf) (ms : List (List ZA)) : Prop where
  good : Good c
  len : (ms.length : Int) = c.me
  b : b = wI 88 ++ (cfB c ++ msB ms)
  ms : ∀ zs ∈ ms, zs = [] ∨ ((zs.length : Int) = c.mt + c.zo + c.sp ∧ ∀ z ∈ zs, z.good c.ca c.bl)

def MO (ms : List (List ZA)) : Rv.Obj := ⟨msL ms, 62, 1, false, true⟩
def ZsO (zs : List ZA) : Rv.Obj := ⟨zsA zs, 65, 4, false, true⟩

structure OInv (b : List UInt8) (cf : Cf) (q : Nat) (h : Heap) (n : Nat) (r : Rd) (ms : List (List ZA)) (c : Option Nat) : Prop where
  ok : r.ok
  hb : r.b = b
  le : ms.length ≤ n
  acc : AccOK (h.upd q (RO r)) c ms.length (msL ms)
  e : r.e = 0 → b = wI 88 ++ (cfB cf ++ (msB ms ++ r.rest)) ∧ ∀ zs ∈ ms, zs = [] ∨ ((zs.length : Int) = cf.mt + cf.zo + cf.sp ∧ ∀ z ∈ zs, z.good cf.ca cf.bl)

theorem Good.sane {c : Cf} (g : Good c) : Sane c := by
  have h1 := g.me; have h2 := g.un; have h3 := g.bl; have h4 := g.ca; have h5 := g.zo; have h6 := g.sp; have h7 := g.mt; have h8 := g.op; have h9 := g.ac; have h10 := g.li
  exact ⟨by omega, by omega, by omega, by omega, by omega, by omega, by omega, by omega, by omega, by omega⟩

theorem lkL_last {F : Nat → Prop} {h : Heap} {t : Nat} {x y : List FV} (hl : x.length = y.length) (hf : FzL F h x y) : ∀ (pre : List (Nat × List FV)) (u : Nat) (cs : List FV), lkL (pre ++ [(t, y)]) u = some cs → ∃ cs', lkL (pre ++ [(t, x)]) u = some cs' ∧ cs'.length = cs.length ∧ FzL F h cs' cs
  | [], u, cs, e => by
    simp only [List.nil_append, lkL] at e ⊢
    split at e
    · rename_i e1; cases e; exact ⟨x, rfl, hl, hf⟩
    · cases e
  | (v, a) :: pre, u, cs, e => by
    simp only [List.cons_append, lkL] at e ⊢
    split at e
    · rename_i e1; cases e; exact ⟨_, rfl, rfl, .refl _ _ _⟩
    · exact lkL_last hl hf pre u cs e

theorem lkL_app : ∀ (pre post : List (Nat × List FV)) (u : Nat) (cs : List FV), lkL pre u = some cs → lkL (pre ++ post) u = some cs
  | [], _, _, _, e => by cases e
  | (v, a) :: pre, post, u, cs, e => by
    simp only [List.cons_append, lkL] at e ⊢
    split at e
    · rename_i e1; cases e; rfl
    · exact lkL_app pre post u cs e

theorem acc_q {h : Heap} {q : Nat} {x : Rv.Obj} {c : Option Nat} {n : Nat} {cs : List FV} (ok : AccOK (h.upd q x) c n cs) : c ≠ some q := fun e => by
  have := ok.fresh q e; rw [Heap.upd_same] at this; cases this
theorem acc_dom {h h' : Heap} {c : Option Nat} {X : Rv.Obj} (hd : ∀ o, h o = none → h' o = none) : ∀ o, accH h c X o = none → accH h' c X o = none := fun o e => by
  obtain ⟨e1, e2⟩ := accH_none e
  cases c with
  | none => exact hd o e1
  | some p => exact (Heap.upd_ne (fun hh => e2 (by rw [hh]))).trans (hd o e1)
theorem upd1 {h : Heap} {q : Nat} {x y X : Rv.Obj} {c : Option Nat} {n : Nat} {cs : List FV} (ok : AccOK (h.upd q x) c n cs) : (accH (h.upd q x) c X).upd q y = accH (h.upd q y) c X := by
  rw [accH_upd (acc_q ok), Heap.upd_upd]
theorem acc_q2 {h : Heap} {q : Nat} {x X : Rv.Obj} {c c2 : Option Nat} {n n2 : Nat} {cs cs2 : List FV} (ok : AccOK (h.upd q x) c n cs) (ok2 : AccOK (accH (h.upd q x) c X) c2 n2 cs2) : c2 ≠ some q := fun e => by
  have := ok2.fresh q e; rw [accH_get ok Heap.upd_same] at this; cases this
theorem upd2 {h : Heap} {q : Nat} {x y X Y : Rv.Obj} {c c2 : Option Nat} {n n2 : Nat} {cs cs2 : List FV} (ok : AccOK (h.upd q x) c n cs) (ok2 : AccOK (accH (h.upd q x) c X) c2 n2 cs2) :
    (accH (accH (h.upd q x) c X) c2 Y).upd q y = accH (accH (h.upd q y) c X) c2 Y := by
  rw [accH_upd (acc_q2 ok ok2), upd1 ok]

structure IInv (b : List UInt8) (cf : Cf) (q : Nat) (h : Heap) (ms : List (List ZA)) (c : Option Nat) (n : Nat) (r : Rd) (zs : List ZA) (c2 : Option Nat) : Prop where
  ok : r.ok
  hb : r.b = b
  le : zs.length ≤ n
  acc : AccOK (h.upd q (RO r)) c ms.length (msL ms)
  acc2 : AccOK (accH (h.upd q (RO r)) c (MO ms)) c2 zs.length (zsA zs)
  e : r.e = 0 → b = wI 88 ++ (cfB cf ++ (msB ms ++ (wF false :: (zsB zs ++ r.rest)))) ∧ (∀ zs ∈ ms, zs = [] ∨ ((zs.length : Int) = cf.mt + cf.zo + cf.sp ∧ ∀ z ∈ zs, z.good cf.ca cf.bl)) ∧ ∀ z ∈ zs, z.good cf.ca cf.bl

set_option maxHeartbeats 600000 in
theorem iparse_c (b : List UInt8) (hb : b.length ≤ 1099511627776) (h : Heap) (K : AV → Heap → Prop)
    (hO : ∀ c ms, Img b c ms → K (.tup [.agg (cfL c), .d (.lst ms.length (msL ms)), .d (.int .i64 0)]) h)
    (hE : ∀ e : Int, e = 13 ∨ e = 14 → (b = [] → e = 14) → K (.tup [.agg (cfL .zero), .d (.lst 0 []), .d (.int .i64 e)]) h) :
    C Try.prog (fun _ => False) 9 [.d (BL b)] h K := by
  refine C.of_body lay layf mixed (gl := fun _ => false) (dr := fun _ => none) _ _ _ Try.func9 rfl rfl rfl rfl rfl rfl ?_
  conv => whnf
  refine CallX.mk _ (fun _ h => h.elim) (rnew_c b hb h _ (fun q hq => ?_))
  conv => whnf
  have ok0 : (Rd.mk b 0 0).ok := ⟨Nat.zero_le _, .inl rfl⟩
  refine CallX.mk (fun p => p = q) (fun p hp => ⟨.inr (hp ▸ hq), id⟩) (rbytes_c q _ 88 hb (by decide) ok0 _ Heap.upd_same _ ?_)
  rw [Heap.upd_upd]
  obtain ⟨ea, eb⟩ := (Rd.mk b 0 0).bytes_eats 88
  have h14 : b = [] → ((Rd.mk b 0 0).bytes 88).2.e = 14 := by rintro rfl; simp [Rd.bytes, Rd.int, Rd.take]
  generalize (Rd.mk b 0 0).bytes 88 = p at *
  obtain ⟨x, r⟩ := p
  dsimp only at ea eb h14 ⊢
  have ok1 := ea.ok ok0
  have hr := ea.b
  dsimp only at hr
  conv => whnf
  refine CallX.mk _ (fun _ h => h.elim) (rerr_c q r _ Heap.upd_same _ ?_)
  conv => whnf
  refine GB.mk (fun he => ?_) (fun he => ?_)
  · simp only [decide_eq_true_eq] at he
    conv => whnf
    refine CallX.mk _ (fun _ h => h.elim) (rerr_c q r _ Heap.upd_same _ ?_)
    conv => whnf
    refine Rq.mk (by first | exact id | exact notMem rfl) ?_
    conv => whnf
    refine Fin.fz (fun _ => False) (.tup [.agg (cfL .zero), .d (.lst 0 []), .d (.int .i64 r.e)]) h (.tup3 (.refl _) (.d .nilL) (.refl _)) (HFz.sub fun o ob ho => ⟨id, Heap.sub_upd hq o ob ho⟩) (hE _ (ok1.2.resolve_left he) h14)
  simp only [decide_eq_false_iff_not, Classical.not_not] at he
  have hxl := eb he
  have hbn : b ≠ [] := by
    intro hh
    have h8 := congrArg List.length (ea.e he).2
    have h0 : (Rd.rest ⟨b, 0, 0⟩).length = 0 := by rw [hh]; rfl
    simp only [List.length_append, wI_length] at h8
    omega
  conv => whnf
  refine CallX.mk _ (fun _ h => h.elim) (get_c x (by omega) _ _ (fun hg => ?_) (fun hg => ?_))
  · conv => whnf
    refine Rq.mk (by first | exact id | exact notMem rfl) ?_
    conv => whnf
    refine GB.mk (fun h => absurd h (by simp)) (fun _ => ?_)
    conv => whnf
    refine CallX.mk _ (fun _ h => h.elim) (check_c (getP x).1 _ _ (fun hc => ?_) (fun hc e he => ?_))
    · conv => whnf
      refine GB.mk (fun h => absurd h (by simp)) (fun _ => ?_)
      conv => whnf
      have gx := get_cfB x hg
      generalize (getP x).1 = cf at *
      have hme := hc.me
      obtain ⟨n, hn⟩ : ∃ n : Nat, cf.me = n := ⟨cf.me.toNat, by omega⟩
      refine LoopX.mk lay layf mixed (gl := fun _ => false) (dr := fun _ => none) (α := {s : Rd × List (List ZA) × Option Nat // OInv b cf q h n s.1 s.2.1 s.2.2})
        (fun s => ⟨[.undef, .undef, .lp 2 0, .undef, .undef, .d (.ptr q 0), .undef, .lp 7 0, .undef, .d (.acc s.1.2.2 s.1.2.1.length), .undef, .undef, .undef, .undef, .undef, .undef, .undef, .undef, .undef, .undef, .undef, .undef, .undef, .undef, .undef, .undef, .undef, .undef, .undef, .undef, .undef, .undef, .undef, .undef, .undef, .undef, .undef, .d (.int .i64 cf.me), .d (.int .i64 s.1.2.1.length), .undef, .undef, .undef, .undef, .undef, .undef, .undef, .undef, .undef, .undef, .undef, .undef, .undef, .undef, .undef, .undef, .undef, .undef, .undef, .undef, .undef, .undef, .undef, .undef, .undef, .undef, .undef, .undef, .undef, .undef, .undef, .undef, .undef, .undef, .undef, .undef, .undef, .undef, .undef, .undef, .undef, .undef, .undef, .undef, .undef, .undef, .undef, .undef, .undef, .undef, .undef, .undef, .undef, .undef, .undef, .undef, .undef, .undef, .undef, .undef, .undef, .undef, .undef, .undef, .undef, .undef, .undef, .undef, .undef, .undef, .undef, .undef, .undef, .undef, .undef, .undef, .undef, .undef, .undef, .undef, .undef, .undef, .undef, .undef, .undef, .undef, .undef, .undef, .undef, .undef, .undef, .undef, .undef, .undef], [(2, cfL .zero), (7, cfL cf)], accH (h.upd q (RO s.1.1)) s.1.2.2 (MO s.1.2.1)⟩)
        (fun s => n - s.1.2.1.length) ⟨(r, [], none), ok1, hr, Nat.zero_le _, .none_, fun h0 => ⟨?_, by simp⟩⟩
        (Le.mkF (fun _ => False) (by simp [leA]; exact .d .nilA) (fun _ _ h => h) (HFz.refl fun _ e => e.elim)) rfl ?_
      · have := (ea.e h0).2
        have hx88 : (x.length : Int) = 88 := by rw [gx, cfB_length]; rfl
        rw [hx88, gx] at this
        simpa [Rd.rest, msB] using this
      rintro ⟨⟨r, ms, c⟩, I⟩
      dsimp only
      have hle := I.le
      conv => whnf
      refine GB.mk (fun hcc => ?_) (fun hcc => ?_)
      · simp only [decide_eq_true_eq] at hcc
        dsimp only at hle
        have hrb := I.hb
        dsimp only at hrb
        obtain ⟨Iok, Ihb, _, Iacc, Ie⟩ := I
        dsimp only at Iok Ihb Iacc Ie
        conv => whnf
        refine CallX.mk (fun p => p = q) (fun p hp => ⟨.inr (hp ▸ hq), id⟩) (rflag_c q r (by rw [Ihb]; exact hb) Iok _ (accH_get Iacc Heap.upd_same) _ ?_)
        rw [upd1 Iacc]
        have ef := r.flag_eats
        generalize r.flag = p at *
        obtain ⟨fl, r1⟩ := p
        dsimp only at ef ⊢
        have fok := ef.ok Iok
        have fb := ef.b.trans Ihb
        have facc : AccOK (h.upd q (RO r1)) c ms.length (msL ms) := Iacc.dom upd_dom
        conv => whnf
        refine GB.mk (fun hfl => ?_) (fun hfl => ?_)
        · subst hfl
          conv => whnf
          refine Rq.mk (by rfl) ?_
          conv => whnf
          refine AccX.mk (h.upd q (RO r1)) (msL ms) rfl facc (fun o ho => .inr (Heap.upd_none (facc.fresh o ho)).2) (fun _ _ => id) (by simp [msL]) (by omega) fun c' ok' => ?_
          refine Nm.mk (msL ms ++ [.nils]) rfl ?_
          conv => whnf
          refine Wr.i64 (y := ((ms.length + 1 : Nat) : Int)) (by omega) (by omega) (by omega) ?_
          conv => whnf
          obtain ⟨o', rfl⟩ : ∃ o', c' = some o' := by
            cases c' with
            | none => have := (ok'.nil rfl).1; omega
            | some o' => exact ⟨o', rfl⟩
          have hml : msL (ms ++ [[]]) = msL ms ++ [mL []] := by simp [msL]
          refine ⟨⟨(r1, ms ++ [[]], some o'), fok, fb, by simp; omega, ?_, fun h0 => ?_⟩, by simp; omega, ?_⟩
          · dsimp only; rw [hml]; exact ⟨ok'.fresh, fun e => by cases e⟩
          · obtain ⟨u1, u2⟩ := ef.e h0
            obtain ⟨v1, v2⟩ := Ie u1
            refine ⟨by rw [v1, u2, msB_append, msB_one, List.append_assoc]; rfl, fun zs hz => ?_⟩
            rcases List.mem_append.1 hz with hz | hz
            · exact v2 zs hz
            · exact .inl (List.mem_singleton.1 hz)
          · refine Le.mkF (fun _ => False) (by simp [leA]) (lkL_app [(2, cfL .zero), (7, cfL cf)] [(10, [.nils])]) ?_
            dsimp only [accH, MO]
            rw [hml]
            exact HFz.cell (fun _ e => e.elim) id (.append (.cons (.refl _) (.refl _ _ _)) (.refl _ _ _) rfl)
        · subst hfl
          conv => whnf
          refine CallX.mk _ (fun _ h => h.elim) (all_c cf _ _ (fun hh => absurd hc.sane hh) (fun _ => ?_))
          obtain ⟨ac, hac⟩ : ∃ ac : Nat, cf.mt + cf.zo + cf.sp = ac := ⟨(cf.mt + cf.zo + cf.sp).toNat, by have := hc.mt; have := hc.zo; have := hc.sp; omega⟩
          rw [hac]
          have hac64 : ac ≤ 64 := by have := hc.all; omega
          conv => whnf
          refine LoopX.mk lay layf mixed (gl := fun _ => false) (dr := fun _ => none) (α := {s : Rd × List ZA × Option Nat // IInv b cf q h ms c ac s.1 s.2.1 s.2.2})
            (fun s => ⟨[.undef, .undef, .lp 2 0, .undef, .undef, .d (.ptr q 0), .undef, .lp 7 0, .undef, .d (.acc c ms.length), .lp 10 0, .undef, .undef, .undef, .undef, .undef, .undef, .undef, .undef, .undef, .undef, .undef, .undef, .undef, .undef, .undef, .undef, .undef, .undef, .undef, .undef, .undef, .undef, .undef, .undef, .undef, .undef, .d (.int .i64 cf.me), .d (.int .i64 ms.length), .undef, .undef, .undef, .undef, .undef, .undef, .undef, .undef, .d (.int .i64 ac), .d (.int .i64 s.1.2.1.length), .undef, .undef, .undef, .undef, .undef, .undef, .undef, .undef, .undef, .undef, .undef, .undef, .undef, .undef, .undef, .undef, .undef, .undef, .undef, .undef, .undef, .undef, .undef, .undef, .undef, .undef, .undef, .undef, .undef, .undef, .undef, .undef, .undef, .undef, .undef, .undef, .undef, .undef, .undef, .undef, .undef, .undef, .undef, .undef, .undef, .undef, .undef, .undef, .undef, .undef, .undef, .undef, .undef, .undef, .undef, .undef, .undef, .undef, .undef, .undef, .undef, .undef, .undef, .undef, .undef, .undef, .undef, .undef, .undef, .undef, .undef, .undef, .undef, .undef, .undef, .undef, .undef, .undef, .undef, .undef, .undef, .undef, .undef, .undef], [(2, cfL .zero), (7, cfL cf), (10, [.acc s.1.2.2 s.1.2.1.length])], accH (accH (h.upd q (RO s.1.1)) c (MO ms)) s.1.2.2 (ZsO s.1.2.1)⟩)
            (fun s => ac - s.1.2.1.length) ⟨(r1, [], none), fok, fb, Nat.zero_le _, facc, .none_, fun h0 => ⟨?_, ?_, by simp⟩⟩
            (Le.mkL (fun _ => False) (by simp [leA]) (lkL_last (t := 10) (x := [.nils]) (y := [.acc none 0]) rfl (.cons .nilA (.refl _ _ _)) [(2, cfL .zero), (7, cfL cf)]) (HFz.refl fun _ e => e.elim)) rfl ?_
          · obtain ⟨u1, u2⟩ := ef.e h0
            rw [(Ie u1).1, u2]; simp [zsB]
          · exact (Ie (ef.e h0).1).2
          rintro ⟨⟨r, zs, c2⟩, ⟨Jok, Jhb, Jle, Jacc, Jacc2, Je⟩⟩
          dsimp only at Jok Jhb Jle Jacc Jacc2 Je ⊢
          conv => whnf
          refine GB.mk (fun hcz => ?_) (fun hcz => ?_)
          · simp only [decide_eq_true_eq] at hcz
            have hzn : zs.length < ac := by omega
            have ez := r.za_eats cf.ca cf.bl
            unfold Rd.za at ez
            obtain ⟨wp, r2, e1⟩ : ∃ v r', r.int 0 cf.ca = (v, r') := ⟨_, _, rfl⟩
            have wb : 0 ≤ wp ∧ wp ≤ 4096 := by
              have w := r.int_eats 0 cf.ca
              rw [e1] at w
              dsimp only at w
              have := hc.ca
              by_cases h0 : r2.e = 0
              · have := w.2.1 h0; omega
              · have := w.2.2 h0; omega
            rw [e1] at ez
            dsimp only at ez
            obtain ⟨ok2, b2⟩ := Rd.int_keep e1 Jok
            rw [Jhb] at b2
            obtain ⟨safe, r3, e2⟩ : ∃ v r', r2.int 0 wp = (v, r') := ⟨_, _, rfl⟩
            rw [e2] at ez
            dsimp only at ez
            obtain ⟨ok3, b3⟩ := Rd.int_keep e2 ok2
            rw [b2] at b3
            have ef3 := r3.flag_eats
            have cf3 := fun hb ok h ho K hK => rflag_c q r3 hb ok h ho K hK
            generalize r3.flag = p3 at *
            obtain ⟨fl, r4⟩ := p3
            dsimp only at ez ef3 cf3
            have ok4 := ef3.ok ok3
            have b4 := ef3.b.trans b3
            have ef4 := (r4.bytes_eats (wp * cf.bl)).1
            have cf4 := fun hb hm ok h ho K hK => rbytes_c q r4 (wp * cf.bl) hb hm ok h ho K hK
            generalize r4.bytes (wp * cf.bl) = p4 at *
            obtain ⟨tx, r5⟩ := p4
            dsimp only at ez ef4 cf4
            have ok5 := ef4.ok ok4
            have b5 := ef4.b.trans b4
            have A2 : AccOK (h.upd q (RO r2)) c ms.length (msL ms) := Jacc.dom upd_dom
            have B2 : AccOK (accH (h.upd q (RO r2)) c (MO ms)) c2 zs.length (zsA zs) := Jacc2.dom (acc_dom upd_dom)
            have A3 : AccOK (h.upd q (RO r3)) c ms.length (msL ms) := Jacc.dom upd_dom
            have B3 : AccOK (accH (h.upd q (RO r3)) c (MO ms)) c2 zs.length (zsA zs) := Jacc2.dom (acc_dom upd_dom)
            have A4 : AccOK (h.upd q (RO r4)) c ms.length (msL ms) := Jacc.dom upd_dom
            have B4 : AccOK (accH (h.upd q (RO r4)) c (MO ms)) c2 zs.length (zsA zs) := Jacc2.dom (acc_dom upd_dom)
            have A5 : AccOK (h.upd q (RO r5)) c ms.length (msL ms) := Jacc.dom upd_dom
            have B5 : AccOK (accH (h.upd q (RO r5)) c (MO ms)) c2 zs.length (zsA zs) := Jacc2.dom (acc_dom upd_dom)
            have wbl : wp * cf.bl ≤ 4096 * 4096 := Int.mul_le_mul wb.2 hc.bl.2 (by have := hc.bl; omega) (by decide)
            have wbl0 : 0 ≤ wp * cf.bl := Int.mul_nonneg wb.1 (by have := hc.bl; omega)
            conv => whnf
            refine CallX.mk (fun p => p = q) (fun p hp => ⟨.inr (hp ▸ hq), id⟩) (rint_v q r 0 cf.ca (by rw [Jhb]; exact hb) Jok _ (accH_get Jacc2 (accH_get Jacc Heap.upd_same)) _ e1 ?_)
            rw [upd2 Jacc Jacc2]
            conv => whnf
            refine Rq.mk (by first | exact id | exact notMem rfl) ?_
            conv => whnf
            refine CallX.mk (fun p => p = q) (fun p hp => ⟨.inr (hp ▸ hq), id⟩) (rint_v q r2 0 wp (by rw [b2]; exact hb) ok2 _ (accH_get B2 (accH_get A2 Heap.upd_same)) _ e2 ?_)
            rw [upd2 A2 B2]
            conv => whnf
            refine Rq.mk (by first | exact id | exact notMem rfl) ?_
            conv => whnf
            refine CallX.mk (fun p => p = q) (fun p hp => ⟨.inr (hp ▸ hq), id⟩) (cf3 (by rw [b3]; exact hb) ok3 _ (accH_get B3 (accH_get A3 Heap.upd_same)) _ ?_)
            rw [upd2 A3 B3]
            conv => whnf
            refine Rq.mk (by first | exact id | exact notMem rfl) ?_
            conv => whnf
            refine Wr.i64 (y := wp * cf.bl) rfl (by omega) (by omega) ?_
            conv => whnf
            refine CallX.mk (fun p => p = q) (fun p hp => ⟨.inr (hp ▸ hq), id⟩) (cf4 (by rw [b4]; exact hb) (by omega) ok4 _ (accH_get B4 (accH_get A4 Heap.upd_same)) _ ?_)
            rw [upd2 A4 B4]
            conv => whnf
            refine Rq.mk (by first | exact id | exact notMem rfl) ?_
            conv => whnf
            refine Wr.i64 (y := wp * cf.bl) rfl (by omega) (by omega) ?_
            conv => whnf
            have next : (r5.e = 0 → ZA.bad cf.bl ⟨wp, safe, fl, tx⟩ = false) → r5.e = 0 → b = wI 88 ++ (cfB cf ++ (msB ms ++ (wF false :: (zsB (zs ++ [⟨wp, safe, fl, tx⟩]) ++ r5.rest)))) ∧ (∀ zs ∈ ms, zs = [] ∨ ((zs.length : Int) = cf.mt + cf.zo + cf.sp ∧ ∀ z ∈ zs, z.good cf.ca cf.bl)) ∧ ∀ z ∈ zs ++ [⟨wp, safe, fl, tx⟩], z.good cf.ca cf.bl := by
              intro hbad h0
              obtain ⟨u1, u2⟩ := ez.1.e h0
              obtain ⟨v1, v2, v3⟩ := Je u1
              refine ⟨?_, v2, fun z hz => ?_⟩
              · rw [v1, u2, zsB_append, zsB_one, List.append_assoc]
              · rcases List.mem_append.1 hz with hz | hz
                · exact v3 z hz
                · rw [List.mem_singleton.1 hz]; exact ez.2 h0 (hbad h0)
            refine GB.mk (fun hg1 => ?_) (fun hg1 => ?_)
            · simp only [decide_eq_true_eq] at hg1
              conv => whnf
              refine CallX.mk _ (fun _ h => h.elim) (rerr_c q r5 _ (accH_get B5 (accH_get A5 Heap.upd_same)) _ ?_)
              conv => whnf
              refine GB.mk (fun he5 => ?_) (fun he5 => ?_)
              · conv => whnf
                refine Rq.mk (by first | exact id | exact notMem rfl) ?_
                conv => whnf
                refine ⟨_, Le.refl _, ?_⟩
                conv => whnf
                refine ⟨_, Le.refl _, ?_⟩
                conv => whnf
                exact Fin.fz (fun _ => False) (.tup [.agg (cfL .zero), .d (.lst 0 []), .d (.int .i64 13)]) h (.tup3 (.refl _) (.d .nilL) (.refl _)) (HFz.sub fun o ob ho => ⟨id, accH_sub B5 _ _ (accH_sub A5 _ _ (Heap.sub_upd hq o ob ho))⟩) (hE _ (.inl rfl) fun hh => absurd hh hbn)
              · simp only [decide_eq_false_iff_not] at he5
                have hbad : r5.e = 0 → ZA.bad cf.bl ⟨wp, safe, fl, tx⟩ = false := fun h0 => absurd h0 he5
                conv => whnf
                refine Rq.mk (by rfl) ?_
                conv => whnf
                refine AccX.mk (accH (h.upd q (RO r5)) c (MO ms)) (zsA zs) rfl B5 (fun o ho => .inr (Heap.upd_none (accH_none (B5.fresh o ho)).1).2) (fun _ _ => id) (by simp [zsA_length]) (by omega) fun c2' ok2' => ?_
                refine Nm.mk (zsA (zs ++ [⟨wp, safe, fl, tx⟩])) (by rw [zsA_append, zsA_one]; rfl) ?_
                rw [show zsA zs ++ _ = zsA (zs ++ [⟨wp, safe, fl, tx⟩]) by rw [zsA_append, zsA_one]; rfl] at ok2'
                conv => whnf
                refine Rq.mk (by first | exact id | exact notMem rfl) ?_
                conv => whnf
                refine Wr.i64 (y := ((zs.length + 1 : Nat) : Int)) (by omega) (by omega) (by omega) ?_
                conv => whnf
                have J' : IInv b cf q h ms c ac r5 (zs ++ [⟨wp, safe, fl, tx⟩]) c2' := ⟨ok5, b5, by simp; omega, A5, by simpa using ok2', next hbad⟩
                refine ⟨⟨(r5, zs ++ [⟨wp, safe, fl, tx⟩], c2'), J'⟩, by simp; omega, ?_⟩
                dsimp only
                rw [show (zs ++ [(⟨wp, safe, fl, tx⟩ : ZA)]).length = zs.length + 1 by simp]
                exact Le.of (by simp [leT]) (lkL_app [(2, cfL .zero), (7, cfL cf), (10, [.acc c2' (zs.length + 1)])] [(11, _)]) (fun _ _ h => h)
            simp only [decide_eq_false_iff_not, Classical.not_not] at hg1
            conv => whnf
            refine GB.mk (fun hfl => ?_) (fun hfl => ?_)
            · conv => whnf
              refine CallX.mk _ (fun _ h => h.elim) (rerr_c q r5 _ (accH_get B5 (accH_get A5 Heap.upd_same)) _ ?_)
              conv => whnf
              refine GB.mk (fun he5 => ?_) (fun he5 => ?_)
              · conv => whnf
                refine GB.mk (fun hsw => ?_) (fun hsw => ?_)
                · conv => whnf
                  refine Rq.mk (by first | exact id | exact notMem rfl) ?_
                  conv => whnf
                  refine ⟨_, Le.refl _, ?_⟩
                  conv => whnf
                  refine ⟨_, Le.refl _, ?_⟩
                  conv => whnf
                  exact Fin.fz (fun _ => False) (.tup [.agg (cfL .zero), .d (.lst 0 []), .d (.int .i64 13)]) h (.tup3 (.refl _) (.d .nilL) (.refl _)) (HFz.sub fun o ob ho => ⟨id, accH_sub B5 _ _ (accH_sub A5 _ _ (Heap.sub_upd hq o ob ho))⟩) (hE _ (.inl rfl) fun hh => absurd hh hbn)
                · simp only [decide_eq_false_iff_not, Classical.not_not] at hsw
                  have hbad : r5.e = 0 → ZA.bad cf.bl ⟨wp, safe, fl, tx⟩ = false := fun h0 => by simp [ZA.bad, hg1, hsw]
                  conv => whnf
                  refine Rq.mk (by rfl) ?_
                  conv => whnf
                  refine AccX.mk (accH (h.upd q (RO r5)) c (MO ms)) (zsA zs) rfl B5 (fun o ho => .inr (Heap.upd_none (accH_none (B5.fresh o ho)).1).2) (fun _ _ => id) (by simp [zsA_length]) (by omega) fun c2' ok2' => ?_
                  refine Nm.mk (zsA (zs ++ [⟨wp, safe, fl, tx⟩])) (by rw [zsA_append, zsA_one]; rfl) ?_
                  rw [show zsA zs ++ _ = zsA (zs ++ [⟨wp, safe, fl, tx⟩]) by rw [zsA_append, zsA_one]; rfl] at ok2'
                  conv => whnf
                  refine Rq.mk (by first | exact id | exact notMem rfl) ?_
                  conv => whnf
                  refine Wr.i64 (y := ((zs.length + 1 : Nat) : Int)) (by omega) (by omega) (by omega) ?_
                  conv => whnf
                  have J' : IInv b cf q h ms c ac r5 (zs ++ [⟨wp, safe, fl, tx⟩]) c2' := ⟨ok5, b5, by simp; omega, A5, by simpa using ok2', next hbad⟩
                  refine ⟨⟨(r5, zs ++ [⟨wp, safe, fl, tx⟩], c2'), J'⟩, by simp; omega, ?_⟩
                  dsimp only
                  rw [show (zs ++ [(⟨wp, safe, fl, tx⟩ : ZA)]).length = zs.length + 1 by simp]
                  exact Le.of (by simp [leT]) (lkL_app [(2, cfL .zero), (7, cfL cf), (10, [.acc c2' (zs.length + 1)])] [(11, _)]) (fun _ _ h => h)
              · simp only [decide_eq_false_iff_not] at he5
                have hbad : r5.e = 0 → ZA.bad cf.bl ⟨wp, safe, fl, tx⟩ = false := fun h0 => absurd h0 he5
                conv => whnf
                refine Rq.mk (by rfl) ?_
                conv => whnf
                refine AccX.mk (accH (h.upd q (RO r5)) c (MO ms)) (zsA zs) rfl B5 (fun o ho => .inr (Heap.upd_none (accH_none (B5.fresh o ho)).1).2) (fun _ _ => id) (by simp [zsA_length]) (by omega) fun c2' ok2' => ?_
                refine Nm.mk (zsA (zs ++ [⟨wp, safe, fl, tx⟩])) (by rw [zsA_append, zsA_one]; rfl) ?_
                rw [show zsA zs ++ _ = zsA (zs ++ [⟨wp, safe, fl, tx⟩]) by rw [zsA_append, zsA_one]; rfl] at ok2'
                conv => whnf
                refine Rq.mk (by first | exact id | exact notMem rfl) ?_
                conv => whnf
                refine Wr.i64 (y := ((zs.length + 1 : Nat) : Int)) (by omega) (by omega) (by omega) ?_
                conv => whnf
                have J' : IInv b cf q h ms c ac r5 (zs ++ [⟨wp, safe, fl, tx⟩]) c2' := ⟨ok5, b5, by simp; omega, A5, by simpa using ok2', next hbad⟩
                refine ⟨⟨(r5, zs ++ [⟨wp, safe, fl, tx⟩], c2'), J'⟩, by simp; omega, ?_⟩
                dsimp only
                rw [show (zs ++ [(⟨wp, safe, fl, tx⟩ : ZA)]).length = zs.length + 1 by simp]
                exact Le.of (by simp [leT]) (lkL_app [(2, cfL .zero), (7, cfL cf), (10, [.acc c2' (zs.length + 1)])] [(11, _)]) (fun _ _ h => h)
            · have hbad : r5.e = 0 → ZA.bad cf.bl ⟨wp, safe, fl, tx⟩ = false := fun h0 => by simp [ZA.bad, hg1, hfl]
              conv => whnf
              refine CallX.mk _ (fun _ h => h.elim) (rerr_c q r5 _ (accH_get B5 (accH_get A5 Heap.upd_same)) _ ?_)
              conv => whnf
              refine GB.mk (fun he5 => ?_) (fun he5 => ?_)
              · conv => whnf
                refine Rq.mk (by rfl) ?_
                conv => whnf
                refine AccX.mk (accH (h.upd q (RO r5)) c (MO ms)) (zsA zs) rfl B5 (fun o ho => .inr (Heap.upd_none (accH_none (B5.fresh o ho)).1).2) (fun _ _ => id) (by simp [zsA_length]) (by omega) fun c2' ok2' => ?_
                refine Nm.mk (zsA (zs ++ [⟨wp, safe, fl, tx⟩])) (by rw [zsA_append, zsA_one]; rfl) ?_
                rw [show zsA zs ++ _ = zsA (zs ++ [⟨wp, safe, fl, tx⟩]) by rw [zsA_append, zsA_one]; rfl] at ok2'
                conv => whnf
                refine Rq.mk (by first | exact id | exact notMem rfl) ?_
                conv => whnf
                refine Wr.i64 (y := ((zs.length + 1 : Nat) : Int)) (by omega) (by omega) (by omega) ?_
                conv => whnf
                have J' : IInv b cf q h ms c ac r5 (zs ++ [⟨wp, safe, fl, tx⟩]) c2' := ⟨ok5, b5, by simp; omega, A5, by simpa using ok2', next hbad⟩
                refine ⟨⟨(r5, zs ++ [⟨wp, safe, fl, tx⟩], c2'), J'⟩, by simp; omega, ?_⟩
                dsimp only
                rw [show (zs ++ [(⟨wp, safe, fl, tx⟩ : ZA)]).length = zs.length + 1 by simp]
                exact Le.of (by simp [leT]) (lkL_app [(2, cfL .zero), (7, cfL cf), (10, [.acc c2' (zs.length + 1)])] [(11, _)]) (fun _ _ h => h)
              · conv => whnf
                refine Rq.mk (by rfl) ?_
                conv => whnf
                refine AccX.mk (accH (h.upd q (RO r5)) c (MO ms)) (zsA zs) rfl B5 (fun o ho => .inr (Heap.upd_none (accH_none (B5.fresh o ho)).1).2) (fun _ _ => id) (by simp [zsA_length]) (by omega) fun c2' ok2' => ?_
                refine Nm.mk (zsA (zs ++ [⟨wp, safe, fl, tx⟩])) (by rw [zsA_append, zsA_one]; rfl) ?_
                rw [show zsA zs ++ _ = zsA (zs ++ [⟨wp, safe, fl, tx⟩]) by rw [zsA_append, zsA_one]; rfl] at ok2'
                conv => whnf
                refine Rq.mk (by first | exact id | exact notMem rfl) ?_
                conv => whnf
                refine Wr.i64 (y := ((zs.length + 1 : Nat) : Int)) (by omega) (by omega) (by omega) ?_
                conv => whnf
                have J' : IInv b cf q h ms c ac r5 (zs ++ [⟨wp, safe, fl, tx⟩]) c2' := ⟨ok5, b5, by simp; omega, A5, by simpa using ok2', next hbad⟩
                refine ⟨⟨(r5, zs ++ [⟨wp, safe, fl, tx⟩], c2'), J'⟩, by simp; omega, ?_⟩
                dsimp only
                rw [show (zs ++ [(⟨wp, safe, fl, tx⟩ : ZA)]).length = zs.length + 1 by simp]
                exact Le.of (by simp [leT]) (lkL_app [(2, cfL .zero), (7, cfL cf), (10, [.acc c2' (zs.length + 1)])] [(11, _)]) (fun _ _ h => h)
          · simp only [decide_eq_false_iff_not] at hcz
            have hzl : zs.length = ac := by omega
            have hm : mL zs = .lst zs.length (zsA zs) := mL_cons (by rintro rfl; have := hc.mt; have := hc.zo; have := hc.sp; simp at hzl; omega)
            conv => whnf
            refine ⟨⟨[.undef, .undef, .lp 2 0, .undef, .undef, .d (.ptr q 0), .undef, .lp 7 0, .undef, .d (.acc c ms.length), .lp 10 0, .undef, .undef, .undef, .undef, .undef, .undef, .undef, .undef, .undef, .undef, .undef, .undef, .undef, .undef, .undef, .undef, .undef, .undef, .undef, .undef, .undef, .undef, .undef, .undef, .undef, .undef, .d (.int .i64 cf.me), .d (.int .i64 ms.length), .undef, .undef, .undef, .undef, .undef, .undef, .undef, .undef, .undef, .undef, .undef, .undef, .undef, .undef, .undef, .undef, .undef, .undef, .undef, .undef, .undef, .undef, .undef, .undef, .undef, .undef, .undef, .undef, .undef, .undef, .undef, .undef, .undef, .undef, .undef, .undef, .undef, .undef, .undef, .undef, .undef, .undef, .undef, .undef, .undef, .undef, .undef, .undef, .undef, .undef, .undef, .undef, .undef, .undef, .undef, .undef, .undef, .undef, .undef, .undef, .undef, .undef, .undef, .undef, .undef, .undef, .undef, .undef, .undef, .undef, .undef, .undef, .undef, .undef, .undef, .undef, .undef, .undef, .undef, .undef, .undef, .undef, .undef, .undef, .undef, .undef, .undef, .undef, .undef, .undef, .undef, .undef, .undef, .undef], [(2, cfL .zero), (7, cfL cf), (10, [.lst zs.length (zsA zs)])], accH (h.upd q (RO r)) c (MO ms)⟩,
              Le.mkL (fun o => c2 = some o) (by simp [leA, AV.isD]) (lkL_last (t := 10) (x := [.acc c2 zs.length]) (y := [.lst zs.length (zsA zs)]) rfl (.cons (Fz.accL Jacc2) (.refl _ _ _)) [(2, cfL .zero), (7, cfL cf)]) (HFz.acc Jacc2), ?_⟩
            conv => whnf
            refine Rq.mk (by rfl) ?_
            conv => whnf
            have hml : msL (ms ++ [zs]) = msL ms ++ [.lst zs.length (zsA zs)] := by simp [msL, hm]
            refine AccX.mk (h.upd q (RO r)) (msL ms) rfl Jacc (fun o ho => .inr (Heap.upd_none (Jacc.fresh o ho)).2) (fun _ _ => id) (by simp [msL]) (by omega) fun c' ok' => ?_
            refine Nm.mk (msL (ms ++ [zs])) hml.symm ?_
            rw [← hml] at ok'
            conv => whnf
            refine Wr.i64 (y := ((ms.length + 1 : Nat) : Int)) (by omega) (by omega) (by omega) ?_
            conv => whnf
            have O' : OInv b cf q h n r (ms ++ [zs]) c' := ⟨Jok, Jhb, by simp; omega, by simpa using ok', fun h0 => ?_⟩
            · refine ⟨⟨(r, ms ++ [zs], c'), O'⟩, by simp; omega, ?_⟩
              dsimp only
              rw [show (ms ++ [zs]).length = ms.length + 1 by simp]
              exact Le.of (by simp [leT]) (lkL_app [(2, cfL .zero), (7, cfL cf)] [(10, _)]) (fun _ _ h => h)
            obtain ⟨u1, u2, u3⟩ := Je h0
            have hz5 : zs.isEmpty = false := by
              cases zs with
              | nil => have := hc.mt; have := hc.zo; have := hc.sp; simp at hzl; omega
              | cons _ _ => rfl
            refine ⟨by rw [u1, msB_append, msB_one, List.append_assoc, mB, hz5]; rfl, fun zs' hz => ?_⟩
            rcases List.mem_append.1 hz with hz | hz
            · exact u2 zs' hz
            · rw [List.mem_singleton.1 hz]; exact .inr ⟨by rw [hzl, hac], u3⟩
      · simp only [decide_eq_false_iff_not] at hcc
        obtain ⟨Iok, Ihb, _, Iacc, Ie⟩ := I
        dsimp only at Iok Ihb Iacc Ie hle
        have hml : ms.length = n := by omega
        have hsub : ∀ o ob, h o = some ob → accH (h.upd q (RO r)) c (MO ms) o = some ob := fun o ob ho => accH_sub Iacc _ _ (Heap.sub_upd hq o ob ho)
        conv => whnf
        refine ⟨_, Le.refl _, ?_⟩
        conv => whnf
        refine CallX.mk _ (fun _ h => h.elim) (rerr_c q r _ (accH_get Iacc Heap.upd_same) _ ?_)
        conv => whnf
        refine GB.mk (fun he5 => ?_) (fun he5 => ?_)
        · simp only [decide_eq_true_eq] at he5
          conv => whnf
          refine CallX.mk _ (fun _ h => h.elim) (rerr_c q r _ (accH_get Iacc Heap.upd_same) _ ?_)
          conv => whnf
          refine Rq.mk (by first | exact id | exact notMem rfl) ?_
          conv => whnf
          exact Fin.fz (fun _ => False) (.tup [.agg (cfL .zero), .d (.lst 0 []), .d (.int .i64 r.e)]) h (.tup3 (.refl _) (.d .nilL) (.refl _)) (HFz.sub fun o ob ho => ⟨id, hsub o ob ho⟩) (hE _ (Iok.2.resolve_left he5) fun hh => absurd hh hbn)
        simp only [decide_eq_false_iff_not, Classical.not_not] at he5
        obtain ⟨f1, f2⟩ := Ie he5
        conv => whnf
        refine CallX.mk _ (fun _ h => h.elim) (rleft_c q r (by rw [Ihb]; exact hb) Iok _ (accH_get Iacc Heap.upd_same) _ ?_)
        conv => whnf
        refine GB.mk (fun hl => ?_) (fun hl => ?_)
        · conv => whnf
          refine Rq.mk (by first | exact id | exact notMem rfl) ?_
          conv => whnf
          exact Fin.fz (fun _ => False) (.tup [.agg (cfL .zero), .d (.lst 0 []), .d (.int .i64 13)]) h (.tup3 (.refl _) (.d .nilL) (.refl _)) (HFz.sub fun o ob ho => ⟨id, hsub o ob ho⟩) (hE _ (.inl rfl) fun hh => absurd hh hbn)
        · simp only [decide_eq_false_iff_not] at hl
          conv => whnf
          refine Rq.mk (by first | exact id | exact notMem rfl) ?_
          conv => whnf
          have hrest : r.rest = [] := List.drop_of_length_le (by omega)
          refine Fin.fz (fun o => c = some o) (.tup [.agg (cfL cf), .d (.lst ms.length (msL ms)), .d (.int .i64 0)]) h (.tup3 (.refl _) (.d (Fz.accL Iacc)) (.refl _)) (HFz.sub fun o ob ho => ⟨fun hcn => ?_, hsub o ob ho⟩) (hO cf ms ⟨hc, by omega, by rw [f1, hrest, List.append_nil], f2⟩)
          have := (Heap.upd_none (Iacc.fresh o hcn)).2
          rw [this] at ho; cases ho
    · conv => whnf
      refine GB.mk (fun _ => ?_) (fun h => absurd h (by simpa using he))
      conv => whnf
      refine Rq.mk (by first | exact id | exact notMem rfl) ?_
      conv => whnf
      exact Fin.fz (fun _ => False) (.tup [.agg (cfL .zero), .d (.lst 0 []), .d (.int .i64 13)]) h (.tup3 (.refl _) (.d .nilL) (.refl _)) (HFz.sub fun o ob ho => ⟨id, Heap.sub_upd hq o ob ho⟩) (hE _ (.inl rfl) fun hh => absurd hh hbn)
  · conv => whnf
    refine Rq.mk (by first | exact id | exact notMem rfl) ?_
    conv => whnf
    refine GB.mk (fun _ => ?_) (fun h => absurd h (by simpa using hg))
    conv => whnf
    refine Rq.mk (by first | exact id | exact notMem rfl) ?_
    conv => whnf
    exact Fin.fz (fun _ => False) (.tup [.agg (cfL .zero), .d (.lst 0 []), .d (.int .i64 13)]) h (.tup3 (.refl _) (.d .nilL) (.refl _)) (HFz.sub fun o ob ho => ⟨id, Heap.sub_upd hq o ob ho⟩) (hE _ (.inl rfl) fun hh => absurd hh hbn)
end Go.Proofs.Ytjnhijpophmmgaa
