/- RvZdev: what functions of the program that the law reaches compute, each stated as a contract, for the law ImageAny. -/
import Derived.Test.YtjnhijpophmmgaaRvZone
set_option linter.unusedVariables false
set_option linter.unusedSimpArgs false
namespace Go.Proofs.Ytjnhijpophmmgaa
open Go Go.Proofs.Rv
set_option maxRecDepth 20000
/-! Members, as two objects: the member, its zones. -/
def zsL (l : List Zn) : List FV := (l.map zL).flatten
def DO (oz : Nat) (d : DevA) : Rv.Obj := ⟨[.ref oz 0 d.zones.length, .int .i64 d.limit, .bool d.dead, .int .i64 d.bad], 96, 4, false, false⟩
def ZO (d : DevA) : Rv.Obj := ⟨zsL d.zones, 98, 5, false, true⟩
/-- A member in the heap. -/
structure DevAt (h : Heap) (o oz : Nat) (d : DevA) : Prop where
  o : h o = some (DO oz d)
  z : h oz = some (ZO d)
def dput (h : Heap) (o oz : Nat) (d : DevA) : Heap := (h.upd o (DO oz d)).upd oz (ZO d)

theorem zL_length (z : Zn) : (zL z).length = 5 := rfl
theorem zsL_length (l : List Zn) : (zsL l).length = l.length * 5 := by
  induction l with
  | nil => rfl
  | cons a l ih => simp only [zsL, List.map_cons, List.flatten_cons, List.length_append, zL_length, List.length_cons] at *; omega
theorem zsL_cons (a : Zn) (l : List Zn) : zsL (a :: l) = zL a ++ zsL l := rfl
theorem zsL_append (l m : List Zn) : zsL (l ++ m) = zsL l ++ zsL m := by simp [zsL]
theorem zsL_drop (l : List Zn) (i : Nat) : (zsL l).drop (i * 5) = zsL (l.drop i) := by
  induction i generalizing l with
  | zero => simp
  | succ i ih =>
    cases l with
    | nil => simp [zsL]
    | cons a l =>
      rw [zsL_cons, List.drop_append, List.drop_of_length_le (by rw [zL_length]; omega), zL_length, show (i + 1) * 5 - 5 = i * 5 by omega, ih]; rfl
theorem zsL_take (l : List Zn) (i : Nat) : (zsL l).take (i * 5) = zsL (l.take i) := by
  induction i generalizing l with
  | zero => simp [zsL]
  | succ i ih =>
    cases l with
    | nil => simp [zsL]
    | cons a l =>
      rw [zsL_cons, List.take_append, List.take_of_length_le (by rw [zL_length]; omega), zL_length, show (i + 1) * 5 - 5 = i * 5 by omega, ih]; rfl
theorem zsL_get {l : List Zn} {i : Nat} {x : Zn} (h : l[i]? = some x) : ((zsL l).drop (0 + i * 5)).take 5 = zL x := by
  rw [Nat.zero_add, zsL_drop]
  have hi := (List.getElem?_eq_some_iff.1 h).1
  rw [List.drop_eq_getElem_cons hi, zsL_cons, List.take_append_of_le_length (by simp [zL_length]), List.take_of_length_le (by simp [zL_length])]
  rw [(List.getElem?_eq_some_iff.1 h).2]
theorem zsL_fit {l : List Zn} {i : Nat} (h : i < l.length) : 0 + i * 5 + 5 ≤ (zsL l).length := by rw [zsL_length]; omega
theorem zsL_set {l : List Zn} {i : Nat} (x : Zn) (h : i < l.length) : Rv.over (zsL l) (0 + i * 5) (zL x) = zsL (l.set i x) := by
  unfold Rv.over
  rw [Nat.zero_add, zsL_take, zL_length, show i * 5 + 5 = (i + 1) * 5 by omega, zsL_drop, ← zsL_cons, ← zsL_append, List.set_eq_take_append_cons_drop, if_pos h]

theorem DevAt.ne {h : Heap} {o oz : Nat} {d : DevA} (hd : DevAt h o oz d) : o ≠ oz := by
  rintro rfl
  have := hd.o; rw [hd.z] at this
  simp [ZO, DO] at this
theorem DevAt.self {h : Heap} {o oz : Nat} {d : DevA} (hd : DevAt h o oz d) : dput h o oz d = h := by
  unfold dput; rw [Heap.upd_self hd.o, Heap.upd_self hd.z]
theorem DevAt.put {h : Heap} {o oz : Nat} {d : DevA} (e : o ≠ oz) : DevAt (dput h o oz d) o oz d := ⟨(Heap.upd_ne e).trans Heap.upd_same, Heap.upd_same⟩
theorem dput_dput {h : Heap} {o oz : Nat} {d e : DevA} (hne : o ≠ oz) : dput (dput h o oz d) o oz e = dput h o oz e := by
  unfold dput; rw [Heap.upd_comm hne, Heap.upd_upd, Heap.upd_upd]
theorem DevAt.keep {h : Heap} {o oz p : Nat} {d : DevA} {x : Rv.Obj} (hd : DevAt h o oz d) (hp : h p = none) : DevAt (h.upd p x) o oz d := ⟨Heap.keep hp hd.o, Heap.keep hp hd.z⟩
/-- Only the member itself was written to. -/
theorem DevAt.upd {h : Heap} {o oz : Nat} {d : DevA} (hd : DevAt h o oz d) (e : DevA) (hz : e.zones = d.zones) : h.upd o (DO oz e) = dput h o oz e := by
  unfold dput
  rw [show ZO e = ZO d by simp [ZO, hz]]
  exact (Heap.upd_self ((Heap.upd_ne hd.ne.symm).trans hd.z)).symm
/-- Only its zones. -/
theorem DevAt.updz {h : Heap} {o oz : Nat} {d : DevA} (hd : DevAt h o oz d) (l : List Zn) (hl : l.length = d.zones.length) : h.upd oz ⟨zsL l, 98, 5, false, true⟩ = dput h o oz { d with zones := l } := by
  unfold dput
  rw [show DO oz { d with zones := l } = DO oz d by simp [DO, hl], Heap.upd_self hd.o]; rfl
theorem dput_sub {h : Heap} {o oz p : Nat} {d : DevA} {x : Rv.Obj} (hp : h p = none) (h1 : p ≠ o) (h2 : p ≠ oz) : ∀ q ob, dput h o oz d q = some ob → dput (h.upd p x) o oz d q = some ob := fun q ob e => by
  unfold dput at e ⊢
  by_cases e1 : q = oz
  · subst e1; rw [Heap.upd_same] at e ⊢; exact e
  · rw [Heap.upd_ne e1] at e ⊢
    by_cases e2 : q = o
    · subst e2; rw [Heap.upd_same] at e ⊢; exact e
    · rw [Heap.upd_ne e2] at e ⊢; exact Heap.keep hp e

theorem ddead_c (o oz : Nat) (d : DevA) (h : Heap) (hd : DevAt h o oz d) (K : AV → Heap → Prop) (hK : K (.d (.bool d.dead)) h) : C Try.prog (fun _ => False) 47 [.d (.ptr o 0)] h K := by
  refine C.of_body lay layf mixed (gl := fun _ => false) (dr := fun _ => none) _ _ _ Try.func47 rfl rfl rfl rfl rfl rfl ?_
  conv => whnf
  refine ObjK.mk _ (hd.o) ?_
  conv => whnf
  exact Fin.same hK

theorem dkill_c (o oz : Nat) (d : DevA) (h : Heap) (hd : DevAt h o oz d) (K : AV → Heap → Prop) (hK : K (.tup []) (dput h o oz d.kill)) : C Try.prog (fun q => q = o) 62 [.d (.ptr o 0)] h K := by
  refine C.of_body lay layf mixed (gl := fun _ => false) (dr := fun _ => none) _ _ _ Try.func62 rfl rfl rfl rfl rfl rfl ?_
  conv => whnf
  refine ObjK.mk _ (hd.o) ?_
  conv => whnf
  refine Rq.mk (by exact ⟨rfl, .inl rfl, id⟩) ?_
  conv => whnf
  rw [← hd.upd d.kill rfl] at hK
  exact Fin.same hK

theorem dright_c (o oz : Nat) (d : DevA) (z : Int) (h : Heap) (hd : DevAt h o oz d) (K : AV → Heap → Prop) (hK : K (.d (.int .i64 (d.right z))) h) : C Try.prog (fun _ => False) 63 [.d (.ptr o 0), .d (.int .i64 z)] h K := by
  unfold DevA.right at hK
  refine C.of_body lay layf mixed (gl := fun _ => false) (dr := fun _ => none) _ _ _ Try.func63 rfl rfl rfl rfl rfl rfl ?_
  conv => whnf
  refine ObjK.mk _ (hd.o) ?_
  conv => whnf
  refine GB.mk (fun ha => ?_) (fun ha => ?_)
  · rw [if_pos ha] at hK
    conv => whnf
    exact Fin.same hK
  rw [if_neg (by rw [ha]; simp)] at hK
  conv => whnf
  refine GB.mk (fun hb => ?_) (fun hb => ?_)
  · simp only [decide_eq_true_eq] at hb
    rw [if_pos (.inl hb)] at hK
    conv => whnf
    exact Fin.same hK
  simp only [decide_eq_false_iff_not] at hb
  conv => whnf
  refine ObjK.mk _ (hd.o) ?_
  conv => whnf
  refine GB.mk (fun hc => ?_) (fun hc => ?_)
  · simp only [decide_eq_true_eq] at hc
    rw [if_pos (.inr hc)] at hK
    conv => whnf
    exact Fin.same hK
  · simp only [decide_eq_false_iff_not] at hc
    rw [if_neg (by omega)] at hK
    conv => whnf
    exact Fin.same hK

theorem dcount_d (o oz oe : Nat) (d : DevA) (e : Int) (h : Heap) (hd : DevAt h o oz d) (he : h oe = some ⟨[.int .i64 e], 27, 1, false, false⟩) (K : AV → Heap → Prop) (hK : K (.tup []) (dput h o oz (d.count e))) :
    CD Try.prog (fun q => q = o) 68 [.d (.ptr o 0), .d (.ptr oe 0)] h K := by
  unfold DevA.count at hK
  refine CD.of_body lay layf mixed (gl := fun _ => false) (dr := fun _ => none) _ _ _ Try.func68 rfl rfl rfl rfl rfl rfl ?_
  conv => whnf
  refine ObjK.mk _ (he) ?_
  conv => whnf
  refine GB.mk (fun hb0 => ?_) (fun hb0 => ?_)
  · simp only [decide_eq_true_eq] at hb0
    rw [if_pos (by omega)] at hK
    conv => whnf
    refine ObjK.mk _ (hd.o) ?_
    conv => whnf
    refine Wr.raw ?_
    conv => whnf
    refine ObjK.mk _ (hd.o) ?_
    conv => whnf
    refine Rq.mk (by exact ⟨rfl, .inl rfl, id⟩) ?_
    conv => whnf
    rw [← hd.upd { d with bad := IntKind.i64.wrap (d.bad + 1) } rfl] at hK
    exact Fin.same hK
  simp only [decide_eq_false_iff_not] at hb0
  conv => whnf
  refine GB.mk (fun hb1 => ?_) (fun hb1 => ?_)
  · simp only [decide_eq_true_eq] at hb1
    rw [if_pos (by omega)] at hK
    conv => whnf
    refine ObjK.mk _ (hd.o) ?_
    conv => whnf
    refine Wr.raw ?_
    conv => whnf
    refine ObjK.mk _ (hd.o) ?_
    conv => whnf
    refine Rq.mk (by exact ⟨rfl, .inl rfl, id⟩) ?_
    conv => whnf
    rw [← hd.upd { d with bad := IntKind.i64.wrap (d.bad + 1) } rfl] at hK
    exact Fin.same hK
  simp only [decide_eq_false_iff_not] at hb1
  conv => whnf
  refine GB.mk (fun hb2 => ?_) (fun hb2 => ?_)
  · simp only [decide_eq_true_eq] at hb2
    rw [if_pos (by omega)] at hK
    conv => whnf
    refine ObjK.mk _ (hd.o) ?_
    conv => whnf
    refine Wr.raw ?_
    conv => whnf
    refine ObjK.mk _ (hd.o) ?_
    conv => whnf
    refine Rq.mk (by exact ⟨rfl, .inl rfl, id⟩) ?_
    conv => whnf
    rw [← hd.upd { d with bad := IntKind.i64.wrap (d.bad + 1) } rfl] at hK
    exact Fin.same hK
  simp only [decide_eq_false_iff_not] at hb2
  conv => whnf
  refine GB.mk (fun hb3 => ?_) (fun hb3 => ?_)
  · simp only [decide_eq_true_eq] at hb3
    rw [if_pos (by omega)] at hK
    conv => whnf
    refine ObjK.mk _ (hd.o) ?_
    conv => whnf
    refine Wr.raw ?_
    conv => whnf
    refine ObjK.mk _ (hd.o) ?_
    conv => whnf
    refine Rq.mk (by exact ⟨rfl, .inl rfl, id⟩) ?_
    conv => whnf
    rw [← hd.upd { d with bad := IntKind.i64.wrap (d.bad + 1) } rfl] at hK
    exact Fin.same hK
  simp only [decide_eq_false_iff_not] at hb3
  conv => whnf
  refine GB.mk (fun hb4 => ?_) (fun hb4 => ?_)
  · simp only [decide_eq_true_eq] at hb4
    rw [if_pos (by omega)] at hK
    conv => whnf
    refine ObjK.mk _ (hd.o) ?_
    conv => whnf
    refine Wr.raw ?_
    conv => whnf
    refine ObjK.mk _ (hd.o) ?_
    conv => whnf
    refine Rq.mk (by exact ⟨rfl, .inl rfl, id⟩) ?_
    conv => whnf
    rw [← hd.upd { d with bad := IntKind.i64.wrap (d.bad + 1) } rfl] at hK
    exact Fin.same hK
  simp only [decide_eq_false_iff_not] at hb4
  conv => whnf
  rw [if_neg (by omega), hd.self] at hK
  exact Fin.same hK

theorem dactive_c (o oz : Nat) (d : DevA) (hf : d.fit) (h : Heap) (hd : DevAt h o oz d) (K : AV → Heap → Prop) (hK : K (.d (.int .i64 d.active)) h) : C Try.prog (fun _ => False) 71 [.d (.ptr o 0)] h K := by
  have hn := hf.n
  unfold DevA.active at hK
  refine C.of_body lay layf mixed (gl := fun _ => false) (dr := fun _ => none) _ _ _ Try.func71 rfl rfl rfl rfl rfl rfl ?_
  conv => whnf
  refine CallX.mk _ (fun _ h => h.elim) (ddead_c o oz d _ hd _ ?_)
  conv => whnf
  refine GB.mk (fun ha => ?_) (fun ha => ?_)
  · rw [if_pos ha] at hK
    conv => whnf
    exact Fin.same hK
  rw [if_neg (by rw [ha]; simp)] at hK
  conv => whnf
  refine ObjK.mk _ (hd.o) ?_
  conv => whnf
  refine LoopX.mk lay layf mixed (gl := fun _ => false) (dr := fun _ => none) (α := {i : Nat // i ≤ d.zones.length})
    (fun i => ⟨[.d (.ptr o 0), .undef, .undef, .d (.int .i64 ((d.zones.take i.1).countP Zn.active)), .undef, .undef, .undef, .undef, .undef, .undef, .undef, .d (.ref oz 0 d.zones.length), .d (.int .i64 d.zones.length), .d (.int .i64 i.1), .undef, .undef, .undef, .undef, .undef, .undef, .undef, .undef, .undef], [], h⟩)
    (fun i => d.zones.length - i.1) ⟨0, by omega⟩ (Le.of (by simp [leT]) (fun _ _ h => h) (fun _ _ h => h)) rfl ?_
  rintro ⟨i, hi⟩
  dsimp only
  conv => whnf
  refine GB.mk (fun hb => ?_) (fun hb => ?_)
  · simp only [decide_eq_true_eq] at hb
    have hlt : i < d.zones.length := by omega
    have hx := List.getElem?_eq_getElem hlt
    have hxf := hf.z _ (List.getElem_mem hlt)
    have htk : (d.zones.take (i + 1)).countP Zn.active = (d.zones.take i).countP Zn.active + if d.zones[i].active = true then 1 else 0 := by
      rw [List.take_succ_eq_append_getElem hlt, List.countP_append, List.countP_singleton]
    have hle : (d.zones.take i).countP Zn.active ≤ i := Nat.le_trans List.countP_le_length (by simp; omega)
    conv => whnf
    refine Rq.mk (by exact ⟨by omega, by omega⟩) ?_
    conv => whnf
    refine ObjK.mk _ (hd.z) ?_
    conv => whnf
    refine SubO.mk _ (by simpa using zsL_get hx) (by simpa using zsL_fit hlt) ?_
    conv => whnf
    refine Rq.mk (by first | exact id | exact notMem rfl) ?_
    conv => whnf
    refine CallX.mk _ (fun _ h => h.elim) (zactive_c d.zones[i] (by have := hxf.d; omega) _ _ ?_)
    conv => whnf
    refine GB.mk (fun hc => ?_) (fun hc => ?_)
    · rw [if_pos hc] at htk
      conv => whnf
      refine Wr.i64 (y := (((d.zones.take (i + 1)).countP Zn.active : Nat) : Int)) (by omega) (by omega) (by omega) ?_
      conv => whnf
      refine Wr.i64 (y := ((i + 1 : Nat) : Int)) (by omega) (by omega) (by omega) ?_
      conv => whnf
      exact ⟨⟨i + 1, hlt⟩, by dsimp only; omega, Le.of (by simp [leT]) (fun _ _ h => by cases h) (fun _ _ h => h)⟩
    · rw [if_neg (by rw [hc]; simp), Nat.add_zero] at htk
      conv => whnf
      refine Wr.i64 (y := ((i + 1 : Nat) : Int)) (by omega) (by omega) (by omega) ?_
      conv => whnf
      exact ⟨⟨i + 1, hlt⟩, by dsimp only; omega, Le.of (by simp [leT, htk]) (fun _ _ h => by cases h) (fun _ _ h => h)⟩
  · have hi8 : i = d.zones.length := by simp at hb; omega
    subst hi8
    rw [List.take_length]
    conv => whnf
    refine ⟨_, Le.refl _, ?_⟩
    conv => whnf
    exact Fin.same hK

theorem dlook_c (o oz : Nat) (d : DevA) (hf : d.fit) (z : Int) (h : Heap) (hd : DevAt h o oz d) (K : AV → Heap → Prop) (h0 : d.right z ≠ 0 → K (.tup [.agg [.int .i64 0, .int .i64 0, .bool false], .d (.bool false)]) h)
    (h1 : d.right z = 0 → K (.tup [.agg [.int .i64 (d.at_ z).wp, .int .i64 (d.at_ z).safe, .bool (d.at_ z).done], .d (.bool true)]) h) : C Try.prog (fun _ => False) 48 [.d (.ptr o 0), .d (.int .i64 z)] h K := by
  refine C.of_body lay layf mixed (gl := fun _ => false) (dr := fun _ => none) _ _ _ Try.func48 rfl rfl rfl rfl rfl rfl ?_
  conv => whnf
  refine CallX.mk _ (fun _ h => h.elim) (dright_c o oz d z _ hd _ ?_)
  conv => whnf
  refine GB.mk (fun ha => ?_) (fun ha => ?_)
  · simp only [decide_eq_true_eq] at ha
    conv => whnf
    refine Rq.mk (by first | exact id | exact notMem rfl) ?_
    conv => whnf
    exact Fin.fz (fun _ => False) (.tup [.agg [.int .i64 0, .int .i64 0, .bool false], .d (.bool false)]) h (.tup2 (.refl _) .ff) (HFz.refl fun _ e => e.elim) (h0 ha)
  · simp only [decide_eq_false_iff_not, Classical.not_not] at ha
    obtain ⟨_, hz0, hz1, hx⟩ := DevA.right_ok ha
    conv => whnf
    refine ObjK.mk _ (hd.o) ?_
    conv => whnf
    refine Rq.mk (by exact ⟨hz0, hz1⟩) ?_
    conv => whnf
    refine ObjK.mk _ (hd.z) ?_
    conv => whnf
    refine SubO.mk _ (zsL_get hx) (zsL_fit (by omega)) ?_
    conv => whnf
    refine CallX.mk _ (fun _ h => h.elim) (zlook_c (d.at_ z) (by have := (hf.at_ z).d; omega) _ _ ?_)
    conv => whnf
    refine Rq.mk (by first | exact id | exact notMem rfl) ?_
    conv => whnf
    exact Fin.fz (fun _ => False) (.tup [.agg [.int .i64 (d.at_ z).wp, .int .i64 (d.at_ z).safe, .bool (d.at_ z).done], .d (.bool true)]) h (.tup2 (.refl _) .tt) (HFz.refl fun _ e => e.elim) (h1 ha)

theorem dflush_c (o oz : Nat) (d : DevA) (hf : d.fit) (h : Heap) (hd : DevAt h o oz d) (K : AV → Heap → Prop) (hK : K (.d (.int .i64 d.flush.2)) (dput h o oz d.flush.1)) : C Try.prog (fun q => q = o ∨ q = oz) 61 [.d (.ptr o 0)] h K := by
  have hn := hf.n
  have hne := hd.ne
  unfold DevA.flush at hK
  refine C.of_body lay layf mixed (gl := fun _ => false) (dr := fun r => match r with | 7 => some (.flo 0 (.flo 1 (.flo 2 (.flo 3 (.flo 4 (.flo 5 (.alt 6 (.flo 7 (.alt 8 (.fin) (.non))) (.non)))))))) | _ => none) _ _ _ Try.func61 rfl rfl rfl rfl (by kernel_rfl) rfl ?_
  conv => whnf
  refine CallX.mk _ (fun _ h => h.elim) (dright_c o oz d 0 _ hd _ ?_)
  conv => whnf
  refine GB.mk (fun ha => ?_) (fun ha => ?_)
  · simp only [decide_eq_true_eq] at ha
    rw [if_pos ha, hd.self] at hK
    conv => whnf
    exact Fin.same hK
  simp only [decide_eq_false_iff_not, Classical.not_not] at ha
  rw [if_neg (by omega)] at hK
  conv => whnf
  refine ObjK.mk _ (hd.o) ?_
  conv => whnf
  refine LoopX.mk lay layf mixed (gl := fun _ => false) (dr := fun r => match r with | 7 => some (.flo 0 (.flo 1 (.flo 2 (.flo 3 (.flo 4 (.flo 5 (.alt 6 (.flo 7 (.alt 8 (.fin) (.non))) (.non)))))))) | _ => none) (α := {i : Nat // i ≤ d.zones.length})
    (fun i => ⟨[.d (.ptr o 0), .undef, .undef, .undef, .undef, .undef, .undef, .undef, .undef, .undef, .undef, .undef, .undef, .undef, .d (.ref oz 0 d.zones.length), .d (.int .i64 d.zones.length), .d (.int .i64 i.1), .undef, .undef, .undef, .undef, .undef, .undef, .undef, .undef, .undef, .undef, .undef, .undef, .undef], [], dput h o oz { d with zones := mapTo Zn.flush d.zones i.1 }⟩)
    (fun i => d.zones.length - i.1) ⟨0, by omega⟩ (Le.of (by simp [leT]) (fun _ _ h => h) (by simp only [mapTo_zero]; rw [show dput h o oz { d with zones := d.zones } = h from hd.self]; exact fun _ _ h => h)) rfl ?_
  rintro ⟨i, hi⟩
  dsimp only
  have hdi := DevAt.put (h := h) (d := { d with zones := mapTo Zn.flush d.zones i }) hne
  conv => whnf
  refine GB.mk (fun hb => ?_) (fun hb => ?_)
  · simp only [decide_eq_true_eq] at hb
    have hlt : i < d.zones.length := by omega
    have hxf := hf.z _ (List.getElem_mem hlt)
    have hx := mapTo_get Zn.flush d.zones hlt
    have hlen := mapTo_len Zn.flush d.zones hi
    conv => whnf
    refine Rq.mk (by exact ⟨by omega, by omega⟩) ?_
    conv => whnf
    refine ObjK.mk _ (hdi.z) ?_
    conv => whnf
    refine SubO.mk _ (by simpa using zsL_get hx) (by simpa using zsL_fit (by rw [hlen]; exact hlt)) ?_
    conv => whnf
    refine Rq.mk (by first | exact id | exact notMem rfl) ?_
    conv => whnf
    refine ObjK.mk _ (hdi.o) ?_
    conv => whnf
    refine CallX.mk _ (fun _ h => h.elim) (zflush_c d.zones[i] (by have := hxf.d; omega) _ _ ?_)
    conv => whnf
    refine Rq.mk (by (rw [hdi.o]; simp)) ?_
    conv => whnf
    refine Rq.mk (by exact ⟨by omega, by dsimp only; rw [hlen]; omega⟩) ?_
    conv => whnf
    refine ObjK.mk _ (hdi.z) ?_
    conv => whnf
    refine Rq.mk ⟨rfl, .inl (.inr rfl), by first | exact id | exact notMem rfl | exact fun hm => hne.symm (List.mem_singleton.1 hm)⟩ ?_
    conv => whnf
    refine Rq.mk (by exact zsL_fit (by dsimp only; rw [hlen]; exact hlt)) ?_
    conv => whnf
    refine Nm.mk (zsL (mapTo Zn.flush d.zones (i + 1))) (by rw [← mapTo_set Zn.flush d.zones hlt]; exact zsL_set _ (by dsimp only; rw [hlen]; exact hlt)) ?_
    conv => whnf
    refine Rq.mk (by (rw [Heap.upd_ne hne, hdi.o]; simp)) ?_
    conv => whnf
    rw [hdi.updz _ (by dsimp only; rw [hlen, mapTo_len _ _ hlt]), dput_dput hne]
    refine Wr.i64 (y := ((i + 1 : Nat) : Int)) (by omega) (by omega) (by omega) ?_
    conv => whnf
    exact ⟨⟨i + 1, hlt⟩, by dsimp only; omega, Le.of (by simp [leT]) (fun _ _ h => by cases h) (fun _ _ h => h)⟩
  · have hi8 : i = d.zones.length := by simp at hb; omega
    subst hi8
    rw [mapTo_all]
    conv => whnf
    refine ⟨_, Le.refl _, ?_⟩
    conv => whnf
    exact Fin.same hK

def EO (e : Int) : Rv.Obj := ⟨[.int .i64 e], 27, 1, false, false⟩

theorem dread_c (o oz : Nat) (d : DevA) (hf : d.fit) (z at_ n : Int) (h : Heap) (hd : DevAt h o oz d) (K : AV → Heap → Prop) (hK : K (.tup [.d (BL (d.read z at_ n).2.1), .d (.int .i64 (d.read z at_ n).2.2)]) (dput h o oz (d.read z at_ n).1)) :
    C Try.prog (fun q => q = o) 66 [.d (.ptr o 0), .d (.int .i64 z), .d (.int .i64 at_), .d (.int .i64 n)] h K := by
  have hne := hd.ne
  unfold DevA.read at hK
  refine C.of_body lay layf mixed (gl := fun t => Nat.beq t 9) (dr := fun r => match r with | 4 => some (.flo 0 (.flo 1 (.alt 2 (.fin) (.non)))) | _ => none) _ _ _ Try.func66 rfl rfl rfl rfl (by kernel_rfl) rfl ?_
  conv => whnf
  refine NewK.mk fun p hp => ?_
  conv => whnf
  have hpo : p ≠ o := (Heap.ne hd.o hp).symm
  have hpz : p ≠ oz := (Heap.ne hd.z hp).symm
  refine CallX.mk _ (fun _ h => h.elim) (dright_c o oz d z _ (hd.keep hp) _ ?_)
  conv => whnf
  refine ObjK.mk _ (Heap.upd_same) ?_
  conv => whnf
  refine Rq.mk ⟨rfl, .inr hp, by first | exact id | exact notMem rfl | exact fun hm => absurd rfl (List.mem_singleton.1 hm)⟩ ?_
  conv => whnf
  rw [Heap.upd_upd]
  refine ObjK.mk _ (Heap.upd_same) ?_
  conv => whnf
  refine GB.mk (fun ha => ?_) (fun ha => ?_)
  · simp only [decide_eq_true_eq] at ha
    rw [if_pos ha] at hK
    conv => whnf
    refine ObjK.mk _ (Heap.upd_same) ?_
    conv => whnf
    refine ObjK.mk _ (Heap.upd_same) ?_
    conv => whnf
    refine Rq.mk ⟨rfl, .inr hp, by first | exact id | exact notMem rfl | exact fun hm => absurd rfl (List.mem_singleton.1 hm)⟩ ?_
    conv => whnf
    rw [Heap.upd_upd]
    refine Rq.mk (by (rw [Heap.upd_same]; simp)) ?_
    conv => whnf
    refine CallD.mk (fun q => q = o) (fun q hq => .inl hq) (dcount_d o oz p d (d.right z) _ (hd.keep hp) Heap.upd_same _ ?_)
    conv => whnf
    unfold dput
    refine ObjK.mk _ ((Heap.upd_ne hpz).trans ((Heap.upd_ne hpo).trans Heap.upd_same)) ?_
    conv => whnf
    exact Fin.fz (fun _ => False) (.tup [.d (BL []), .d (.int .i64 (d.right z))]) _ (.tup2 (.d .nilL) (.refl _)) (HFz.sub fun q ob e => ⟨id, dput_sub hp hpo hpz q ob e⟩) hK
  · simp only [decide_eq_false_iff_not, Classical.not_not] at ha
    rw [if_neg (by omega)] at hK
    obtain ⟨_, hz0, hz1, hx⟩ := DevA.right_ok ha
    conv => whnf
    refine ObjK.mk _ ((hd.keep hp).o) ?_
    conv => whnf
    refine Rq.mk (by exact ⟨hz0, hz1⟩) ?_
    conv => whnf
    refine ObjK.mk _ ((hd.keep hp).z) ?_
    conv => whnf
    refine SubO.mk _ (zsL_get hx) (zsL_fit (by omega)) ?_
    conv => whnf
    refine CallX.mk _ (fun _ h => h.elim) (zread_c (d.at_ z) (hf.at_ z) at_ n _ _ ?_)
    conv => whnf
    refine ObjK.mk _ (Heap.upd_same) ?_
    conv => whnf
    refine Rq.mk ⟨rfl, .inr hp, by first | exact id | exact notMem rfl | exact fun hm => absurd rfl (List.mem_singleton.1 hm)⟩ ?_
    conv => whnf
    rw [Heap.upd_upd]
    refine CallD.mk (fun q => q = o) (fun q hq => .inl hq) (dcount_d o oz p d ((d.at_ z).read at_ n).2 _ (hd.keep hp) Heap.upd_same _ ?_)
    conv => whnf
    unfold dput
    refine ObjK.mk _ ((Heap.upd_ne hpz).trans ((Heap.upd_ne hpo).trans Heap.upd_same)) ?_
    conv => whnf
    exact Rv.Fin.mk _ (dput_sub hp hpo hpz) hK

theorem dappend_c (o oz : Nat) (d : DevA) (hf : d.fit) (z : Int) (b : List UInt8) (hb : b.length ≤ 274877906944) (h : Heap) (hd : DevAt h o oz d) (K : AV → Heap → Prop) (hK : K (.d (.int .i64 (d.app z b).2)) (dput h o oz (d.app z b).1)) :
    C Try.prog (fun q => q = o ∨ q = oz) 58 [.d (.ptr o 0), .d (.int .i64 z), .d (BL b)] h K := by
  have hne := hd.ne
  unfold DevA.app at hK
  refine C.of_body lay layf mixed (gl := fun t => Nat.beq t 6) (dr := fun r => match r with | 8 => some (.flo 0 (.alt 1 (.flo 2 (.flo 3 (.flo 4 (.flo 5 (.flo 6 (.flo 7 (.flo 8 (.flo 9 (.alt 10 (.flo 11 (.flo 12 (.flo 13 (.flo 14 (.flo 16 (.flo 17 (.flo 18 (.flo 19 (.alt 15 (.flo 20 (.flo 21 (.flo 22 (.fin)))) (.non)))))))))) (.non)))))))))) (.non))) | 10 => some (.flo 0 (.flo 1 (.flo 2 (.flo 3 (.flo 4 (.flo 5 (.flo 6 (.alt 7 (.fin) (.non))))))))) | _ => none) _ _ _ Try.func58 rfl rfl rfl rfl (by kernel_rfl) rfl ?_
  conv => whnf
  refine NewK.mk fun p hp => ?_
  conv => whnf
  have hpo : p ≠ o := (Heap.ne hd.o hp).symm
  have hpz : p ≠ oz := (Heap.ne hd.z hp).symm
  have fin : ∀ (e : Int) (K : AV → Heap → Prop), K (.d (.int .i64 e)) (dput h o oz (d.count e)) → CallD Try.prog (fun q => q = o ∨ q = oz) h 68 [.d (.ptr o 0), .d (.ptr p 0)] (h.upd p (EO e)) fun r h' => h' = dput (h.upd p (EO e)) o oz (d.count e) := fun e K hK =>
    CallD.mk (fun q => q = o) (fun q hq => .inl (.inl hq)) (dcount_d o oz p d e _ (hd.keep hp) Heap.upd_same _ rfl)
  refine CallX.mk _ (fun _ h => h.elim) (dright_c o oz d z _ (hd.keep hp) _ ?_)
  conv => whnf
  refine ObjK.mk _ (Heap.upd_same) ?_
  conv => whnf
  refine Rq.mk ⟨rfl, .inr hp, by first | exact id | exact notMem rfl | exact fun hm => absurd rfl (List.mem_singleton.1 hm)⟩ ?_
  conv => whnf
  rw [Heap.upd_upd]
  refine ObjK.mk _ (Heap.upd_same) ?_
  conv => whnf
  refine GB.mk (fun ha => ?_) (fun ha => ?_)
  · simp only [decide_eq_true_eq] at ha
    rw [if_pos ha] at hK
    conv => whnf
    refine ObjK.mk _ (Heap.upd_same) ?_
    conv => whnf
    refine ObjK.mk _ (Heap.upd_same) ?_
    conv => whnf
    refine Rq.mk ⟨rfl, .inr hp, by first | exact id | exact notMem rfl | exact fun hm => absurd rfl (List.mem_singleton.1 hm)⟩ ?_
    conv => whnf
    rw [Heap.upd_upd]
    refine CallD.mk (fun q => q = o) (fun q hq => .inl (.inl hq)) (dcount_d o oz p d (d.right z) _ (hd.keep hp) Heap.upd_same _ ?_)
    conv => whnf
    unfold dput
    refine ObjK.mk _ ((Heap.upd_ne hpz).trans ((Heap.upd_ne hpo).trans Heap.upd_same)) ?_
    conv => whnf
    exact Rv.Fin.mk _ (dput_sub hp hpo hpz) hK
  simp only [decide_eq_false_iff_not, Classical.not_not] at ha
  rw [if_neg (by omega)] at hK
  obtain ⟨_, hz0, hz1, hx⟩ := DevA.right_ok ha
  have hfz := hf.at_ z
  have hfl := hfz.d
  conv => whnf
  refine ObjK.mk _ ((hd.keep hp).o) ?_
  conv => whnf
  refine Rq.mk (by exact ⟨hz0, hz1⟩) ?_
  conv => whnf
  refine ObjK.mk _ ((hd.keep hp).z) ?_
  conv => whnf
  refine SubO.mk _ (zsL_get hx) (zsL_fit (by omega)) ?_
  conv => whnf
  refine CallX.mk _ (fun _ h => h.elim) (zappend_c (d.at_ z) hfz b hb _ _ ?_)
  conv => whnf
  refine Rq.mk (by first | exact id | exact notMem rfl) ?_
  conv => whnf
  refine ObjK.mk _ (Heap.upd_same) ?_
  conv => whnf
  refine Rq.mk ⟨rfl, .inr hp, by first | exact id | exact notMem rfl | exact fun hm => absurd rfl (List.mem_singleton.1 hm)⟩ ?_
  conv => whnf
  rw [Heap.upd_upd]
  refine ObjK.mk _ (Heap.upd_same) ?_
  conv => whnf
  refine GB.mk (fun hc => ?_) (fun hc => ?_)
  · simp only [decide_eq_true_eq] at hc
    rw [if_pos hc] at hK
    conv => whnf
    refine ObjK.mk _ (Heap.upd_same) ?_
    conv => whnf
    refine ObjK.mk _ (Heap.upd_same) ?_
    conv => whnf
    refine Rq.mk ⟨rfl, .inr hp, by first | exact id | exact notMem rfl | exact fun hm => absurd rfl (List.mem_singleton.1 hm)⟩ ?_
    conv => whnf
    rw [Heap.upd_upd]
    refine CallD.mk (fun q => q = o) (fun q hq => .inl (.inl hq)) (dcount_d o oz p d ((d.at_ z).app b).2 _ (hd.keep hp) Heap.upd_same _ ?_)
    conv => whnf
    unfold dput
    refine ObjK.mk _ ((Heap.upd_ne hpz).trans ((Heap.upd_ne hpo).trans Heap.upd_same)) ?_
    conv => whnf
    exact Rv.Fin.mk _ (dput_sub hp hpo hpz) hK
  simp only [decide_eq_false_iff_not, Classical.not_not] at hc
  rw [if_neg (by omega)] at hK
  have hxf := Zn.app_fit hfz b hc
  rw [hc]
  conv => whnf
  refine CallX.mk _ (fun _ h => h.elim) (zactive_c ((d.at_ z).app b).1 (by have := hxf.d; omega) _ _ ?_)
  conv => whnf
  refine GB.mk (fun h1 => ?_) (fun h1 => ?_)
  · conv => whnf
    refine ObjK.mk _ ((hd.keep hp).o) ?_
    conv => whnf
    refine Rq.mk (by exact ⟨hz0, hz1⟩) ?_
    conv => whnf
    refine ObjK.mk _ ((hd.keep hp).z) ?_
    conv => whnf
    refine SubO.mk _ (zsL_get hx) (zsL_fit (by omega)) ?_
    conv => whnf
    refine CallX.mk _ (fun _ h => h.elim) (zactive_c (d.at_ z) (by omega) _ _ ?_)
    conv => whnf
    refine Rq.mk (by (rw [(hd.keep hp).z]; simp)) ?_
    conv => whnf
    refine Rq.mk (by (rw [(hd.keep hp).o]; simp)) ?_
    conv => whnf
    refine GB.mk (fun h2 => ?_) (fun h2 => ?_)
    · have h2' : (d.at_ z).active = false := by simpa using h2
      conv => whnf
      refine ObjK.mk _ ((hd.keep hp).o) ?_
      conv => whnf
      refine CallX.mk _ (fun _ h => h.elim) (dactive_c o oz d hf _ (hd.keep hp) _ ?_)
      conv => whnf
      repeat (refine Rq.mk ?_ ?_; (focus (first | (rw [(hd.keep hp).z]; simp; done) | (rw [(hd.keep hp).o]; simp; done))); conv => whnf)
      refine GB.mk (fun h3 => ?_) (fun h3 => ?_)
      · simp only [decide_eq_true_eq] at h3
        rw [if_pos ⟨h1, h2', h3⟩] at hK
        conv => whnf
        refine ObjK.mk _ (Heap.upd_same) ?_
        conv => whnf
        refine Rq.mk ⟨rfl, .inr hp, by first | exact id | exact notMem rfl | exact fun hm => absurd rfl (List.mem_singleton.1 hm)⟩ ?_
        conv => whnf
        rw [Heap.upd_upd]
        refine CallD.mk (fun q => q = o) (fun q hq => .inl (.inl hq)) (dcount_d o oz p d 8 _ (hd.keep hp) Heap.upd_same _ ?_)
        conv => whnf
        unfold dput
        refine ObjK.mk _ ((Heap.upd_ne hpz).trans ((Heap.upd_ne hpo).trans Heap.upd_same)) ?_
        conv => whnf
        exact Rv.Fin.mk _ (dput_sub hp hpo hpz) hK
      · simp only [decide_eq_false_iff_not] at h3
        rw [if_neg (fun hh => h3 hh.2.2)] at hK
        conv => whnf
        refine ObjK.mk _ ((hd.keep hp).o) ?_
        conv => whnf
        refine Rq.mk (by exact ⟨hz0, hz1⟩) ?_
        conv => whnf
        refine ObjK.mk _ ((hd.keep hp).z) ?_
        conv => whnf
        refine Rq.mk ⟨rfl, .inl (.inr rfl), by first | exact id | exact notMem rfl | exact fun hm => hne.symm (List.mem_singleton.1 hm)⟩ ?_
        conv => whnf
        refine Rq.mk (by exact zsL_fit (by omega)) ?_
        conv => whnf
        refine Nm.mk (zsL (d.zones.set z.toNat ((d.at_ z).app b).1)) (zsL_set _ (by omega)) ?_
        conv => whnf
        refine Rq.mk (by (rw [Heap.upd_ne hne, (hd.keep hp).o]; simp)) ?_
        conv => whnf
        rw [(hd.keep hp).updz _ (by simp)]
        have hpe : dput (h.upd p (EO 0)) o oz (d.set z ((d.at_ z).app b).1) p = some (EO 0) := by unfold dput; exact (Heap.upd_ne hpz).trans ((Heap.upd_ne hpo).trans Heap.upd_same)
        refine ObjK.mk _ (hpe) ?_
        conv => whnf
        refine Rq.mk ⟨rfl, .inr hp, by first | exact id | exact notMem rfl | exact fun hm => absurd rfl (List.mem_singleton.1 hm)⟩ ?_
        conv => whnf
        show CallD _ _ _ _ _ ((dput (h.upd p (EO 0)) o oz (d.set z ((d.at_ z).app b).1)).upd p (EO 0)) _
        rw [Heap.upd_self hpe]
        refine CallD.mk (fun q => q = o) (fun q hq => .inl (.inl hq)) (dcount_d o oz p (d.set z ((d.at_ z).app b).1) 0 _ (DevAt.put hne) hpe _ ?_)
        conv => whnf
        rw [dput_dput hne]
        refine ObjK.mk _ ((by unfold dput; exact (Heap.upd_ne hpz).trans ((Heap.upd_ne hpo).trans Heap.upd_same))) ?_
        conv => whnf
        exact Rv.Fin.mk _ (dput_sub hp hpo hpz) hK
    · rw [if_neg (fun hh => by rw [hh.2.1] at h2; simp at h2)] at hK
      conv => whnf
      refine ObjK.mk _ ((hd.keep hp).o) ?_
      conv => whnf
      refine Rq.mk (by exact ⟨hz0, hz1⟩) ?_
      conv => whnf
      refine ObjK.mk _ ((hd.keep hp).z) ?_
      conv => whnf
      refine Rq.mk ⟨rfl, .inl (.inr rfl), by first | exact id | exact notMem rfl | exact fun hm => hne.symm (List.mem_singleton.1 hm)⟩ ?_
      conv => whnf
      refine Rq.mk (by exact zsL_fit (by omega)) ?_
      conv => whnf
      refine Nm.mk (zsL (d.zones.set z.toNat ((d.at_ z).app b).1)) (zsL_set _ (by omega)) ?_
      conv => whnf
      refine Rq.mk (by (rw [Heap.upd_ne hne, (hd.keep hp).o]; simp)) ?_
      conv => whnf
      rw [(hd.keep hp).updz _ (by simp)]
      have hpe : dput (h.upd p (EO 0)) o oz (d.set z ((d.at_ z).app b).1) p = some (EO 0) := by unfold dput; exact (Heap.upd_ne hpz).trans ((Heap.upd_ne hpo).trans Heap.upd_same)
      refine ObjK.mk _ (hpe) ?_
      conv => whnf
      refine Rq.mk ⟨rfl, .inr hp, by first | exact id | exact notMem rfl | exact fun hm => absurd rfl (List.mem_singleton.1 hm)⟩ ?_
      conv => whnf
      show CallD _ _ _ _ _ ((dput (h.upd p (EO 0)) o oz (d.set z ((d.at_ z).app b).1)).upd p (EO 0)) _
      rw [Heap.upd_self hpe]
      refine CallD.mk (fun q => q = o) (fun q hq => .inl (.inl hq)) (dcount_d o oz p (d.set z ((d.at_ z).app b).1) 0 _ (DevAt.put hne) hpe _ ?_)
      conv => whnf
      rw [dput_dput hne]
      refine ObjK.mk _ ((by unfold dput; exact (Heap.upd_ne hpz).trans ((Heap.upd_ne hpo).trans Heap.upd_same))) ?_
      conv => whnf
      exact Rv.Fin.mk _ (dput_sub hp hpo hpz) hK
  · rw [if_neg (by rw [h1]; simp)] at hK
    conv => whnf
    refine ObjK.mk _ ((hd.keep hp).o) ?_
    conv => whnf
    refine Rq.mk (by exact ⟨hz0, hz1⟩) ?_
    conv => whnf
    refine ObjK.mk _ ((hd.keep hp).z) ?_
    conv => whnf
    refine Rq.mk ⟨rfl, .inl (.inr rfl), by first | exact id | exact notMem rfl | exact fun hm => hne.symm (List.mem_singleton.1 hm)⟩ ?_
    conv => whnf
    refine Rq.mk (by exact zsL_fit (by omega)) ?_
    conv => whnf
    refine Nm.mk (zsL (d.zones.set z.toNat ((d.at_ z).app b).1)) (zsL_set _ (by omega)) ?_
    conv => whnf
    refine Rq.mk (by (rw [Heap.upd_ne hne, (hd.keep hp).o]; simp)) ?_
    conv => whnf
    rw [(hd.keep hp).updz _ (by simp)]
    have hpe : dput (h.upd p (EO 0)) o oz (d.set z ((d.at_ z).app b).1) p = some (EO 0) := by unfold dput; exact (Heap.upd_ne hpz).trans ((Heap.upd_ne hpo).trans Heap.upd_same)
    refine ObjK.mk _ (hpe) ?_
    conv => whnf
    refine Rq.mk ⟨rfl, .inr hp, by first | exact id | exact notMem rfl | exact fun hm => absurd rfl (List.mem_singleton.1 hm)⟩ ?_
    conv => whnf
    show CallD _ _ _ _ _ ((dput (h.upd p (EO 0)) o oz (d.set z ((d.at_ z).app b).1)).upd p (EO 0)) _
    rw [Heap.upd_self hpe]
    refine CallD.mk (fun q => q = o) (fun q hq => .inl (.inl hq)) (dcount_d o oz p (d.set z ((d.at_ z).app b).1) 0 _ (DevAt.put hne) hpe _ ?_)
    conv => whnf
    rw [dput_dput hne]
    refine ObjK.mk _ ((by unfold dput; exact (Heap.upd_ne hpz).trans ((Heap.upd_ne hpo).trans Heap.upd_same))) ?_
    conv => whnf
    exact Rv.Fin.mk _ (dput_sub hp hpo hpz) hK


theorem dchange_c (o oz : Nat) (d : DevA) (hf : d.fit) (z : Int) (f : Nat) (g : Zn → Zn) (hg : ∀ (x : Zn) (h : Heap) (K : AV → Heap → Prop), x.fit → K (.agg (zL (g x))) h → C Try.prog (fun _ => False) f [.agg (zL x)] h K)
    (h : Heap) (hd : DevAt h o oz d) (K : AV → Heap → Prop) (hK : K (.d (.int .i64 (d.change z g).2)) (dput h o oz (d.change z g).1)) :
    C Try.prog (fun q => q = o ∨ q = oz) 72 [.d (.ptr o 0), .d (.int .i64 z), .d (.fn f [])] h K := by
  have hne := hd.ne
  unfold DevA.change at hK
  refine C.of_body lay layf mixed (gl := fun t => Nat.beq t 6) (dr := fun r => match r with | 4 => some (.flo 0 (.flo 1 (.flo 2 (.flo 3 (.flo 4 (.flo 5 (.flo 6 (.flo 7 (.flo 8 (.flo 9 (.flo 10 (.flo 11 (.flo 12 (.alt 13 (.flo 14 (.alt 15 (.fin) (.non))) (.non))))))))))))))) | _ => none) _ _ _ Try.func72 rfl rfl rfl rfl (by kernel_rfl) rfl ?_
  conv => whnf
  refine NewK.mk fun p hp => ?_
  conv => whnf
  have hpo : p ≠ o := (Heap.ne hd.o hp).symm
  have hpz : p ≠ oz := (Heap.ne hd.z hp).symm
  refine CallX.mk _ (fun _ h => h.elim) (dright_c o oz d z _ (hd.keep hp) _ ?_)
  conv => whnf
  refine ObjK.mk _ (Heap.upd_same) ?_
  conv => whnf
  refine Rq.mk ⟨rfl, .inr hp, by first | exact id | exact notMem rfl | exact fun hm => absurd rfl (List.mem_singleton.1 hm)⟩ ?_
  conv => whnf
  rw [Heap.upd_upd]
  refine ObjK.mk _ (Heap.upd_same) ?_
  conv => whnf
  refine GB.mk (fun ha => ?_) (fun ha => ?_)
  · simp only [decide_eq_true_eq] at ha
    rw [if_neg (by omega)] at hK
    obtain ⟨_, hz0, hz1, hx⟩ := DevA.right_ok ha
    rw [ha]
    conv => whnf
    refine ObjK.mk _ ((hd.keep hp).o) ?_
    conv => whnf
    refine ObjK.mk _ ((hd.keep hp).o) ?_
    conv => whnf
    refine Rq.mk (by exact ⟨hz0, hz1⟩) ?_
    conv => whnf
    refine ObjK.mk _ ((hd.keep hp).z) ?_
    conv => whnf
    refine SubO.mk _ (zsL_get hx) (zsL_fit (by omega)) ?_
    conv => whnf
    refine CallX.mk _ (fun _ h => h.elim) (hg (d.at_ z) _ _ (hf.at_ z) ?_)
    conv => whnf
    repeat (refine Rq.mk ?_ ?_; (focus (first | (rw [(hd.keep hp).z]; simp; done) | (rw [(hd.keep hp).o]; simp; done))); conv => whnf)
    refine Rq.mk (by exact ⟨hz0, hz1⟩) ?_
    conv => whnf
    refine ObjK.mk _ ((hd.keep hp).z) ?_
    conv => whnf
    refine Rq.mk ⟨rfl, .inl (.inr rfl), by first | exact id | exact notMem rfl | exact fun hm => hne.symm (List.mem_singleton.1 hm)⟩ ?_
    conv => whnf
    refine Rq.mk (by exact zsL_fit (by omega)) ?_
    conv => whnf
    refine Nm.mk (zsL (d.zones.set z.toNat (g (d.at_ z)))) (zsL_set _ (by omega)) ?_
    conv => whnf
    repeat (refine Rq.mk ?_ ?_; (focus (first | (rw [Heap.upd_same]; simp; done) | (rw [(Heap.upd_ne hne), (hd.keep hp).o]; simp; done))); conv => whnf)
    rw [(hd.keep hp).updz _ (by simp)]
    have hpe : dput (h.upd p (EO 0)) o oz (d.set z (g (d.at_ z))) p = some (EO 0) := by unfold dput; exact (Heap.upd_ne hpz).trans ((Heap.upd_ne hpo).trans Heap.upd_same)
    refine ObjK.mk _ (hpe) ?_
    conv => whnf
    refine ObjK.mk _ (hpe) ?_
    conv => whnf
    refine Rq.mk ⟨rfl, .inr hp, by first | exact id | exact notMem rfl | exact fun hm => absurd rfl (List.mem_singleton.1 hm)⟩ ?_
    conv => whnf
    show CallD _ _ _ _ _ ((dput (h.upd p (EO 0)) o oz (d.set z (g (d.at_ z)))).upd p (EO 0)) _
    rw [Heap.upd_self hpe]
    refine CallD.mk (fun q => q = o) (fun q hq => .inl (.inl hq)) (dcount_d o oz p (d.set z (g (d.at_ z))) 0 _ (DevAt.put hne) hpe _ ?_)
    conv => whnf
    rw [dput_dput hne]
    refine ObjK.mk _ ((by unfold dput; exact (Heap.upd_ne hpz).trans ((Heap.upd_ne hpo).trans Heap.upd_same))) ?_
    conv => whnf
    exact Rv.Fin.mk _ (dput_sub hp hpo hpz) hK
  · simp only [decide_eq_false_iff_not] at ha
    rw [if_pos ha] at hK
    conv => whnf
    refine ObjK.mk _ (Heap.upd_same) ?_
    conv => whnf
    refine ObjK.mk _ (Heap.upd_same) ?_
    conv => whnf
    refine Rq.mk ⟨rfl, .inr hp, by first | exact id | exact notMem rfl | exact fun hm => absurd rfl (List.mem_singleton.1 hm)⟩ ?_
    conv => whnf
    rw [Heap.upd_upd]
    refine CallD.mk (fun q => q = o) (fun q hq => .inl (.inl hq)) (dcount_d o oz p d (d.right z) _ (hd.keep hp) Heap.upd_same _ ?_)
    conv => whnf
    unfold dput
    refine ObjK.mk _ ((Heap.upd_ne hpz).trans ((Heap.upd_ne hpo).trans Heap.upd_same)) ?_
    conv => whnf
    exact Rv.Fin.mk _ (dput_sub hp hpo hpz) hK

theorem dfinish_c (o oz : Nat) (d : DevA) (hf : d.fit) (z : Int) (h : Heap) (hd : DevAt h o oz d) (K : AV → Heap → Prop) (hK : K (.d (.int .i64 (d.finish z).2)) (dput h o oz (d.finish z).1)) :
    C Try.prog (fun q => q = o ∨ q = oz) 59 [.d (.ptr o 0), .d (.int .i64 z)] h K := by
  refine C.of_body lay layf mixed (gl := fun _ => false) (dr := fun _ => none) _ _ _ Try.func59 rfl rfl rfl rfl rfl rfl ?_
  conv => whnf
  refine CallX.mk (fun q => q = o ∨ q = oz) (fun q hq => ⟨.inl hq, id⟩) (dchange_c o oz d hf z 73 Zn.finish (fun x h K hx hK => zfinish_c x (by have := hx.d; omega) h K hK) h hd _ ?_)
  conv => whnf
  exact Fin.same hK

theorem din_c (n most : Int) (h : Heap) (K : AV → Heap → Prop) (hK : K (.d (.bool (decide (1 ≤ n ∧ n ≤ most)))) h) : C Try.prog (fun _ => False) 53 [.d (.int .i64 n), .d (.int .i64 most)] h K := by
  refine C.of_body lay layf mixed (gl := fun _ => false) (dr := fun _ => none) _ _ _ Try.func53 rfl rfl rfl rfl rfl rfl ?_
  conv => whnf
  refine GB.mk (fun hx => ?_) (fun hx => ?_)
  · conv => whnf
    simp only [decide_eq_true_eq] at hx
    rw [show decide (1 ≤ n ∧ n ≤ most) = decide (n ≤ most) by simp [hx]] at hK
    exact Fin.same hK
  · conv => whnf
    simp only [decide_eq_false_iff_not] at hx
    rw [show decide (1 ≤ n ∧ n ≤ most) = false by simp [hx]] at hK
    exact Fin.ff hK

def DN (limit : Int) (c : Option Nat) (i : Nat) : Rv.Obj := ⟨[.acc c i, .int .i64 limit, .bool false, .int .i64 0], 96, 4, false, false⟩

theorem dnew_c (zones cap block limit : Int) (h : Heap) (K : AV → Heap → Prop) (h0 : ¬ ((1 ≤ zones ∧ zones ≤ 64) ∧ (1 ≤ cap ∧ cap ≤ 4096) ∧ (1 ≤ block ∧ block ≤ 4096) ∧ 1 ≤ limit) → K (.tup [.d .nilp, .d (.int .i64 1)]) h)
    (h1 : (1 ≤ zones ∧ zones ≤ 64) ∧ (1 ≤ cap ∧ cap ≤ 4096) ∧ (1 ≤ block ∧ block ≤ 4096) ∧ 1 ≤ limit → ∀ o oz, h o = none → h oz = none → o ≠ oz → K (.tup [.d (.ptr o 0), .d (.int .i64 0)]) (dput h o oz (.new zones cap block limit))) :
    C Try.prog (fun _ => False) 29 [.d (.int .i64 zones), .d (.int .i64 cap), .d (.int .i64 block), .d (.int .i64 limit)] h K := by
  refine C.of_body lay layf mixed (gl := fun t => Nat.beq t 34) (dr := fun r => match r with | 7 => some (.flo 0 (.flo 1 (.flo 2 (.flo 3 (.flo 4 (.flo 5 (.flo 6 (.alt 7 (.alt 8 (.alt 9 (.flo 10 (.flo 11 (.alt 12 (.fin) (.non)))) (.non)) (.non)) (.non))))))))) | _ => none) _ _ _ Try.func29 rfl rfl rfl rfl (by kernel_rfl) rfl ?_
  conv => whnf
  refine CallX.mk _ (fun _ h => h.elim) (din_c _ _ _ _ ?_)
  conv => whnf
  refine GB.mk (fun g1 => ?_) (fun g1 => ?_)
  · conv => whnf
    exact Fin.same (h0 fun hh => by simp at g1; omega)
  simp only [Bool.not_eq_false', decide_eq_true_eq] at g1
  conv => whnf
  refine CallX.mk _ (fun _ h => h.elim) (din_c _ _ _ _ ?_)
  conv => whnf
  refine GB.mk (fun g2 => ?_) (fun g2 => ?_)
  · conv => whnf
    exact Fin.same (h0 fun hh => by simp at g2; omega)
  simp only [Bool.not_eq_false', decide_eq_true_eq] at g2
  conv => whnf
  refine CallX.mk _ (fun _ h => h.elim) (din_c _ _ _ _ ?_)
  conv => whnf
  refine GB.mk (fun g3 => ?_) (fun g3 => ?_)
  · conv => whnf
    exact Fin.same (h0 fun hh => by simp at g3; omega)
  simp only [Bool.not_eq_false', decide_eq_true_eq] at g3
  conv => whnf
  refine GB.mk (fun g4 => ?_) (fun g4 => ?_)
  · conv => whnf
    exact Fin.same (h0 fun hh => by simp at g4; omega)
  simp only [decide_eq_false_iff_not] at g4
  conv => whnf
  refine NewK.mk fun o ho => ?_
  conv => whnf
  obtain ⟨n, rfl⟩ : ∃ n : Nat, zones = n := ⟨zones.toNat, by omega⟩
  refine LoopX.mk lay layf mixed (gl := fun t => Nat.beq t 34) (dr := fun r => match r with | 7 => some (.flo 0 (.flo 1 (.flo 2 (.flo 3 (.flo 4 (.flo 5 (.flo 6 (.alt 7 (.alt 8 (.alt 9 (.flo 10 (.flo 11 (.alt 12 (.fin) (.non)))) (.non)) (.non)) (.non))))))))) | _ => none) (α := {x : Option Nat × Nat // x.2 ≤ n ∧ AccOK (h.upd o (DN limit none 0)) x.1 x.2 (zsL (List.replicate x.2 (.new cap block)))})
    (fun x => ⟨[.undef, .d (.int .i64 cap), .d (.int .i64 block), .undef, .undef, .undef, .undef, .undef, .d .nilp, .d (.int .i64 0), .undef, .d (.ptr o 0), .undef, .undef, .undef, .undef, .undef, .undef, .undef, .undef, .undef, .undef, .undef, .undef, .undef, .undef, .undef, .undef, .undef, .undef, .undef, .undef, .undef, .undef, .undef, .d (.int .i64 n), .d (.int .i64 x.1.2), .undef, .undef, .undef, .undef, .undef, .undef, .undef, .undef, .undef, .undef, .undef, .undef, .undef, .undef, .undef], [], accH (h.upd o (DN limit x.1.1 x.1.2)) x.1.1 ⟨zsL (List.replicate x.1.2 (.new cap block)), 98, 5, false, true⟩⟩)
    (fun x => n - x.1.2) ⟨(none, 0), by omega, .none_⟩ (Le.mkF (fun _ => False) (by simp [leA]) (fun _ _ h => h) (HFz.cell (fun _ e => e.elim) id (.cons .nilA (.refl _ _ _)))) rfl ?_
  rintro ⟨⟨c, i⟩, hi, ok⟩
  dsimp only at hi ok ⊢
  have oki : ∀ j, AccOK (h.upd o (DN limit c j)) c i (zsL (List.replicate i (.new cap block))) := fun j => ok.dom upd_dom
  conv => whnf
  refine GB.mk (fun hb => ?_) (fun hb => ?_)
  · simp only [decide_eq_true_eq] at hb
    have hob : accH (h.upd o (DN limit c i)) c ⟨zsL (List.replicate i (.new cap block)), 98, 5, false, true⟩ o = some (DN limit c i) := accH_get (oki i) Heap.upd_same
    conv => whnf
    refine ObjK.mk _ (hob) ?_
    conv => whnf
    refine CallX.mk _ (fun _ h => h.elim) (znew_c cap block _ _ ?_)
    conv => whnf
    repeat (refine Rq.mk ?_ ?_; (focus (first | (rw [hob]; simp; done))); conv => whnf)
    refine Rq.mk (by rfl) ?_
    conv => whnf
    refine AccX.mk _ _ rfl (oki i) (fun q hq => .inr (Heap.upd_none ((oki i).fresh q hq)).2) (fun q hq => ?_) (by rw [zsL_length]; simp) (by omega) fun c' ok' => ?_
    · have := (Heap.upd_none ((oki i).fresh q hq)).1
      first | exact notMem rfl | exact fun hm => this (List.mem_singleton.1 hm)
    refine Nm.mk (zsL (List.replicate (i + 1) (.new cap block))) (by rw [List.replicate_succ', zsL_append]; rfl) ?_
    conv => whnf
    have hob' : accH (h.upd o (DN limit c i)) c' ⟨zsL (List.replicate (i + 1) (.new cap block)), 98, 5, false, true⟩ o = some (DN limit c i) := accH_get ok' Heap.upd_same
    have hco : c' ≠ some o := fun e => by have := ok'.fresh o e; rw [Heap.upd_same] at this; cases this
    repeat (refine Rq.mk ?_ ?_; (focus (first | (rw [hob']; simp; done))); conv => whnf)
    refine ObjK.mk _ (hob') ?_
    conv => whnf
    refine Rq.mk ⟨rfl, .inr ho, by first | exact id | exact notMem rfl | exact fun hm => absurd rfl (List.mem_singleton.1 hm)⟩ ?_
    conv => whnf
    rw [accH_upd hco, Heap.upd_upd]
    repeat (refine Rq.mk ?_ ?_; (focus (first | (rw [accH_get (ok'.dom upd_dom) Heap.upd_same]; simp; done))); conv => whnf)
    refine Wr.i64 (y := ((i + 1 : Nat) : Int)) (by omega) (by omega) (by omega) ?_
    conv => whnf
    exact ⟨⟨(c', i + 1), by dsimp only; omega, by rw [List.replicate_succ', zsL_append]; exact ok'.dom upd_dom⟩, by dsimp only; omega, Le.of (by simp [leT]) (fun _ _ h => h) (fun _ _ h => h)⟩
  · have hin : i = n := by simp at hb; omega
    subst hin
    obtain ⟨oz, rfl⟩ : ∃ oz, c = some oz := by
      cases c with
      | none => have := (ok.nil rfl).1; omega
      | some oz => exact ⟨oz, rfl⟩
    obtain ⟨hzo, hz⟩ := Heap.upd_none (ok.fresh oz rfl)
    conv => whnf
    refine ⟨_, Le.refl _, ?_⟩
    conv => whnf
    have hK := h1 ⟨g1, g2, g3, by omega⟩ o oz ho hz hzo.symm
    refine Fin.fz (fun _ => False) _ _ (.refl _) ?_ hK
    have e1 : DO oz (DevA.new i cap block limit) = ⟨[.ref oz 0 i, .int .i64 limit, .bool false, .int .i64 0], 96, 4, false, false⟩ := by simp [DO, DevA.new]
    have e2 : ZO (DevA.new i cap block limit) = ⟨zsL (List.replicate i (.new cap block)), 98, 5, false, true⟩ := by simp [ZO, DevA.new]
    unfold dput
    rw [e1, e2]
    show HFz _ ((h.upd o (DN limit (some oz) i)).upd oz _) _
    rw [Heap.upd_comm hzo, Heap.upd_comm hzo]
    exact HFz.cell (fun _ e => e.elim) id (.cons (.accR oz i _ (.refl _)) (.refl _ _ _))
end Go.Proofs.Ytjnhijpophmmgaa
