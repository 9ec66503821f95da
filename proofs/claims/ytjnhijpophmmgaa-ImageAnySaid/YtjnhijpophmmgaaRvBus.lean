/- RvBus: what functions of the program that the law reaches compute, each stated as a contract, for the law ImageAny. -/
import Derived.Test.YtjnhijpophmmgaaRvZdev
import Derived.Test.YtjnhijpophmmgaaRvBusA
set_option linter.unusedVariables false
set_option linter.unusedSimpArgs false
namespace Go.Proofs.Ytjnhijpophmmgaa
open Go Go.Proofs.Rv
set_option maxRecDepth 20000
/-- Where a bus lies. -/
structure BusL where
  o : Nat
  od : Nat
  ot : Nat
  otn : Nat
  ids : List (Nat × Nat)
  fresh : FV

def BO (L : BusL) (b : BusA) : Rv.Obj := ⟨[.ref L.od 0 b.devs.length, L.fresh, .int .i64 b.fuse, .ref L.ot 0 b.devs.length, .ref L.otn 0 b.devs.length, .bool b.down, .int .i64 b.count, .int .i64 b.bad], 74, 8, false, false⟩
def DsO (L : BusL) : Rv.Obj := ⟨L.ids.map fun p => .ptr p.1 0, 67, 1, false, true⟩
def IO_ (l : List Int) : Rv.Obj := ⟨l.map fun n => .int .i64 n, 3, 1, false, true⟩
def flatI : List (Nat × Nat) → List Nat
  | [] => []
  | p :: ps => p.1 :: p.2 :: flatI ps
def BusL.all (L : BusL) : List Nat := L.o :: L.od :: L.ot :: L.otn :: flatI L.ids
def devsH : List (Nat × Nat) → List DevA → Heap
  | p :: ps, d :: ds, q => if q = p.1 then some (DO p.2 d) else if q = p.2 then some (ZO d) else devsH ps ds q
  | _, _, _ => none
def busH (L : BusL) (b : BusA) : Heap := fun q => if q = L.o then some (BO L b) else if q = L.od then some (DsO L) else if q = L.ot then some (IO_ b.times) else if q = L.otn then some (IO_ b.turns) else devsH L.ids b.devs q

/-- A bus in the heap. -/
structure BusAt (h : Heap) (L : BusL) (b : BusA) : Prop where
  has : Has h (busH L b)
  ok : b.ok
  len : L.ids.length = b.devs.length
  nd : L.all.Nodup

theorem flatI_mem : ∀ {ids : List (Nat × Nat)} {i : Nat} {p : Nat × Nat}, ids[i]? = some p → p.1 ∈ flatI ids ∧ p.2 ∈ flatI ids
  | [], _, _, h => by simp at h
  | q :: ids, 0, p, h => by simp at h; subst h; simp [flatI]
  | q :: ids, i + 1, p, h => by
    obtain ⟨h1, h2⟩ := flatI_mem (ids := ids) (i := i) (by simpa using h)
    simp [flatI, h1, h2]
theorem devsH_none : ∀ {ids : List (Nat × Nat)} {ds : List DevA} {q : Nat}, q ∉ flatI ids → devsH ids ds q = none
  | [], _, _, _ => by simp [devsH]
  | p :: ps, [], _, _ => by simp [devsH]
  | p :: ps, d :: ds, q, h => by
    simp [flatI] at h
    simp only [devsH]
    rw [if_neg h.1, if_neg h.2.1]; exact devsH_none h.2.2
theorem devsH_get : ∀ {ids : List (Nat × Nat)} {ds : List DevA} {i : Nat} {p : Nat × Nat} {d : DevA}, (flatI ids).Nodup → ids[i]? = some p → ds[i]? = some d → devsH ids ds p.1 = some (DO p.2 d) ∧ devsH ids ds p.2 = some (ZO d)
  | [], _, _, _, _, _, h, _ => by simp at h
  | _ :: _, [], _, _, _, _, _, h => by simp at h
  | q :: ids, e :: ds, 0, p, d, hn, h1, h2 => by
    simp at h1 h2; subst h1 h2
    simp [flatI] at hn
    have n1 : ¬ q.2 = q.1 := fun he => hn.1.1 he.symm
    exact ⟨by simp [devsH], by simp [devsH, n1]⟩
  | q :: ids, e :: ds, i + 1, p, d, hn, h1, h2 => by
    simp at h1 h2
    simp [flatI] at hn
    obtain ⟨m1, m2⟩ := flatI_mem h1
    obtain ⟨g1, g2⟩ := devsH_get (ids := ids) (ds := ds) (i := i) hn.2.2 h1 h2
    have n1 : ¬ p.1 = q.1 := fun he => hn.1.2 (he ▸ m1)
    have n2 : ¬ p.1 = q.2 := fun he => hn.2.1 (he ▸ m1)
    have n3 : ¬ p.2 = q.1 := fun he => hn.1.2 (he ▸ m2)
    have n4 : ¬ p.2 = q.2 := fun he => hn.2.1 (he ▸ m2)
    simp only [devsH]
    rw [if_neg n1, if_neg n2, if_neg n3, if_neg n4]
    exact ⟨g1, g2⟩
theorem devsH_set : ∀ {ids : List (Nat × Nat)} {ds : List DevA} {i : Nat} {p : Nat × Nat} {d : DevA} {q : Nat}, ids[i]? = some p → q ≠ p.1 → q ≠ p.2 → devsH ids (ds.set i d) q = devsH ids ds q
  | [], _, _, _, _, _, h, _, _ => by simp at h
  | _ :: _, [], _, _, _, _, _, _, _ => by simp [devsH]
  | r :: ids, e :: ds, 0, p, d, q, h, h1, h2 => by
    simp at h; subst h
    simp only [List.set_cons_zero, devsH]
    rw [if_neg h1, if_neg h2, if_neg h1, if_neg h2]
  | r :: ids, e :: ds, i + 1, p, d, q, h, h1, h2 => by
    simp at h
    simp only [List.set_cons_succ, devsH]
    rw [devsH_set (ids := ids) (i := i) h h1 h2]
theorem devsH_dom : ∀ {ids : List (Nat × Nat)} {ds es : List DevA} {q : Nat} {x : Rv.Obj}, ds.length = es.length → devsH ids ds q = some x → ∃ y, devsH ids es q = some y
  | [], _, _, _, _, _, h => by simp [devsH] at h
  | _ :: _, [], _, _, _, _, h => by simp [devsH] at h
  | p :: ps, d :: ds, [], _, _, hl, _ => by simp at hl
  | p :: ps, d :: ds, e :: es, q, x, hl, h => by
    simp only [devsH] at h ⊢
    split
    · exact ⟨_, rfl⟩
    · rename_i h1
      split
      · exact ⟨_, rfl⟩
      · rename_i h2
        rw [if_neg h1, if_neg h2] at h
        exact devsH_dom (by simpa using hl) h

theorem busH_dom {L : BusL} {b b' : BusA} (hl : b.devs.length = b'.devs.length) : ∀ q x, busH L b q = some x → ∃ y, busH L b' q = some y := fun q x h => by
  unfold busH at h ⊢
  repeat' split
  all_goals first | exact ⟨_, rfl⟩ | skip
  rename_i h1 h2 h3 h4
  rw [if_neg h1, if_neg h2, if_neg h3, if_neg h4] at h
  exact devsH_dom hl h

/-- Turned as a whole, again and again. -/
theorem BusAt.over {h : Heap} {L : BusL} {b b' : BusA} (hb : BusAt h L b) (ok : b'.ok) (hl : b'.devs.length = b.devs.length) : BusAt (h.over (busH L b')) L b' := ⟨Has.of_over, ok, by rw [hb.len, hl], hb.nd⟩
theorem over_bus {h : Heap} {L : BusL} {b b' : BusA} (hl : b.devs.length = b'.devs.length) : (h.over (busH L b)).over (busH L b') = h.over (busH L b') := over_over (busH_dom hl)
theorem BusAt.self {h : Heap} {L : BusL} {b : BusA} (hb : BusAt h L b) : h.over (busH L b) = h := hb.has.over_self

section
variable {h : Heap} {L : BusL} {b : BusA}
theorem BusAt.o (hb : BusAt h L b) : h L.o = some (BO L b) := hb.has _ _ (if_pos rfl)
theorem BusAt.ne (hb : BusAt h L b) : L.o ≠ L.od ∧ L.o ≠ L.ot ∧ L.o ≠ L.otn ∧ L.od ≠ L.ot ∧ L.od ≠ L.otn ∧ L.ot ≠ L.otn := by
  have := hb.nd; simp [BusL.all] at this; omega
theorem BusAt.d (hb : BusAt h L b) : h L.od = some (DsO L) := hb.has _ _ (by unfold busH; rw [if_neg hb.ne.1.symm]; exact if_pos rfl)
theorem BusAt.t (hb : BusAt h L b) : h L.ot = some (IO_ b.times) := hb.has _ _ (by unfold busH; rw [if_neg hb.ne.2.1.symm, if_neg hb.ne.2.2.2.1.symm]; exact if_pos rfl)
theorem BusAt.tn (hb : BusAt h L b) : h L.otn = some (IO_ b.turns) := hb.has _ _ (by unfold busH; rw [if_neg hb.ne.2.2.1.symm, if_neg hb.ne.2.2.2.2.1.symm, if_neg hb.ne.2.2.2.2.2.symm]; exact if_pos rfl)
theorem BusAt.out (hb : BusAt h L b) {q : Nat} (hq : q ∈ flatI L.ids) : q ≠ L.o ∧ q ≠ L.od ∧ q ≠ L.ot ∧ q ≠ L.otn := by
  have := hb.nd; simp [BusL.all] at this
  refine ⟨?_, ?_, ?_, ?_⟩ <;> (rintro rfl; simp_all)
theorem BusAt.busH_dev (hb : BusAt h L b) {q : Nat} (hq : q ∈ flatI L.ids) (b' : BusA) : busH L b' q = devsH L.ids b'.devs q := by
  obtain ⟨h1, h2, h3, h4⟩ := hb.out hq
  unfold busH; rw [if_neg h1, if_neg h2, if_neg h3, if_neg h4]
theorem BusAt.ndi (hb : BusAt h L b) : (flatI L.ids).Nodup := by have := hb.nd; simp [BusL.all] at this; exact this.2.2.2.2
theorem BusAt.dev (hb : BusAt h L b) {i : Nat} {p : Nat × Nat} {d : DevA} (hp : L.ids[i]? = some p) (hd : b.devs[i]? = some d) : DevAt h p.1 p.2 d := by
  obtain ⟨m1, m2⟩ := flatI_mem hp
  obtain ⟨g1, g2⟩ := devsH_get hb.ndi hp hd
  exact ⟨hb.has _ _ (by rw [hb.busH_dev m1]; exact g1), hb.has _ _ (by rw [hb.busH_dev m2]; exact g2)⟩
theorem BusAt.id (hb : BusAt h L b) {i : Nat} (hi : i < b.devs.length) : ∃ p, L.ids[i]? = some p := ⟨_, List.getElem?_eq_getElem (by rw [hb.len]; exact hi)⟩

theorem BusAt.ext {b' : BusA} (hb : BusAt h L b) {g : Heap} (h1 : ∀ q, busH L b' q = busH L b q → g q = h q) (h2 : ∀ q x, busH L b' q = some x → busH L b' q ≠ busH L b q → g q = some x) (hl : b'.devs.length = b.devs.length) : g = h.over (busH L b') := by
  funext q
  unfold Heap.over
  by_cases e : busH L b' q = busH L b q
  · rw [h1 q e]
    split
    · rename_i x hx; exact hb.has q x (by rw [← e]; exact hx)
    · rfl
  · split
    · rename_i x hx; exact h2 q x hx e
    · rename_i hx
      exfalso
      cases hq : busH L b q with
      | none => rw [hx, hq] at e; exact e rfl
      | some y => obtain ⟨z, hz⟩ := busH_dom hl.symm q y hq; rw [hx] at hz; cases hz

/-- One member was turned. -/
theorem BusAt.putDev (hb : BusAt h L b) {i : Nat} {p : Nat × Nat} {d d' : DevA} (hp : L.ids[i]? = some p) (hd : b.devs[i]? = some d) : dput h p.1 p.2 d' = h.over (busH L (b.setDev i d')) := by
  obtain ⟨m1, m2⟩ := flatI_mem hp
  have hne := (hb.dev hp hd).ne
  have hi := (List.getElem?_eq_some_iff.1 hd).1
  have hset : (b.setDev i d').devs[i]? = some d' := by simp [BusA.setDev, hi]
  obtain ⟨g1, g2⟩ := devsH_get hb.ndi hp hset
  have key : ∀ q, q ≠ p.1 → q ≠ p.2 → busH L (b.setDev i d') q = busH L b q := fun q q1 q2 => by
    unfold busH
    have e1 : BO L (b.setDev i d') = BO L b := by simp [BO, BusA.setDev]
    rw [e1]
    simp only [BusA.setDev]
    rw [devsH_set hp q1 q2]
  funext q
  unfold Heap.over dput
  by_cases e2 : q = p.2
  · subst e2; rw [Heap.upd_same, hb.busH_dev m2, g2]
  · by_cases e1 : q = p.1
    · subst e1; rw [Heap.upd_ne hne, Heap.upd_same, hb.busH_dev m1, g1]
    · rw [Heap.upd_ne e2, Heap.upd_ne e1, key q e1 e2]
      split
      · rename_i x hx; exact hb.has q x hx
      · rfl
/-- The bus itself was turned. -/
theorem BusAt.putO (hb : BusAt h L b) {b' : BusA} (h1 : b'.devs = b.devs) (h2 : b'.times = b.times) (h3 : b'.turns = b.turns) : h.upd L.o (BO L b') = h.over (busH L b') := by
  funext q
  unfold Heap.over
  by_cases e : q = L.o
  · subst e; rw [Heap.upd_same, show busH L b' L.o = some (BO L b') from if_pos rfl]
  · have : busH L b' q = busH L b q := by unfold busH; rw [if_neg e, if_neg e, h1, h2, h3]
    rw [Heap.upd_ne e, this]
    split
    · rename_i x hx; exact hb.has q x hx
    · rfl
/-- Its times were turned. -/
theorem BusAt.putT (hb : BusAt h L b) (l : List Int) : h.upd L.ot (IO_ l) = h.over (busH L { b with times := l }) := by
  funext q
  unfold Heap.over
  have hn := hb.ne
  by_cases e : q = L.ot
  · subst e; rw [Heap.upd_same]; unfold busH; rw [if_neg hn.2.1.symm, if_neg hn.2.2.2.1.symm, if_pos rfl]
  · have : busH L { b with times := l } q = busH L b q := by unfold busH; rw [show BO L { b with times := l } = BO L b from rfl, if_neg e, if_neg e]
    rw [Heap.upd_ne e, this]
    split
    · rename_i x hx; exact hb.has q x hx
    · rfl
theorem BusAt.putT' (hb : BusAt h L b) {l : List Int} : h.upd L.ot ⟨l.map fun n => .int .i64 n, 3, 1, false, true⟩ = h.over (busH L { b with times := l }) := hb.putT l
end

theorem bthere_c {h : Heap} {L : BusL} {b : BusA} (hb : BusAt h L b) (m : Int) (K : AV → Heap → Prop) (hK : K (.d (.bool (b.there m))) h) : C Try.prog (fun _ => False) 46 [.d (.ptr L.o 0), .d (.int .i64 m)] h K := by
  unfold BusA.there at hK
  refine C.of_body lay layf mixed (gl := fun _ => false) (dr := fun _ => none) _ _ _ Try.func46 rfl rfl rfl rfl rfl rfl ?_
  conv => whnf
  refine GB.mk (fun hx => ?_) (fun hx => ?_)
  · rw [hx, Bool.true_and] at hK
    conv => whnf
    refine ObjK.mk _ (hb.o) ?_
    conv => whnf
    exact Fin.same hK
  · rw [hx, Bool.false_and] at hK
    conv => whnf
    exact Fin.ff hK

theorem mem_o {L : BusL} : L.o ∈ L.all := by simp [BusL.all]
theorem mem_ot {L : BusL} : L.ot ∈ L.all := by simp [BusL.all]
theorem mem_id {L : BusL} {i : Nat} {p : Nat × Nat} (h : L.ids[i]? = some p) : p.1 ∈ L.all ∧ p.2 ∈ L.all := by
  obtain ⟨h1, h2⟩ := flatI_mem h
  simp [BusL.all, h1, h2]

theorem blose_c {h : Heap} {L : BusL} {b : BusA} (hb : BusAt h L b) (K : AV → Heap → Prop) (hK : K (.tup []) (h.over (busH L b.lose))) : C Try.prog (fun q => q ∈ L.all) 76 [.d (.ptr L.o 0)] h K := by
  have hm := hb.ok.m
  have ht := hb.ok.t
  refine C.of_body lay layf mixed (gl := fun _ => false) (dr := fun _ => none) _ _ _ Try.func76 rfl rfl rfl rfl rfl rfl ?_
  conv => whnf
  refine ObjK.mk _ (hb.o) ?_
  conv => whnf
  refine LoopX.mk lay layf mixed (gl := fun _ => false) (dr := fun _ => none) (α := {i : Nat // i ≤ b.devs.length})
    (fun i => ⟨[.d (.ptr L.o 0), .undef, .undef, .undef, .undef, .undef, .undef, .d (.ref L.ot 0 b.devs.length), .d (.int .i64 b.devs.length), .d (.int .i64 i.1), .undef, .undef, .undef, .undef, .undef, .undef, .undef, .undef, .undef, .undef, .undef, .undef, .undef, .undef, .undef, .undef, .undef, .undef, .undef, .undef, .undef, .undef, .undef, .undef, .undef, .undef, .undef, .undef, .undef], [], h.over (busH L (b.loseN i.1))⟩)
    (fun i => b.devs.length - i.1) ⟨0, by omega⟩ (Le.of (by simp [leT]) (fun _ _ h => h) (by simp only [BusA.loseN]; rw [hb.self]; exact fun _ _ h => h)) rfl ?_
  rintro ⟨i, hi⟩
  dsimp only
  obtain ⟨ok1, l1, c1⟩ := BusA.loseN_ok hb.ok i
  have hb1 := hb.over ok1 l1
  conv => whnf
  refine GB.mk (fun hc => ?_) (fun hc => ?_)
  · simp only [decide_eq_true_eq] at hc
    have hlt : i < b.devs.length := by omega
    obtain ⟨p, hp⟩ := hb.id hlt
    have htt := BusA.loseN_times b i i (Nat.le_refl _)
    obtain ⟨t, hti⟩ : ∃ t, b.times[i]? = some t := ⟨_, List.getElem?_eq_getElem (by rw [ht]; exact hlt)⟩
    rw [hti] at htt
    obtain ⟨d, hd⟩ : ∃ d, (b.loseN i).devs[i]? = some d := ⟨_, List.getElem?_eq_getElem (by rw [l1]; exact hlt)⟩
    have hst : b.loseN (i + 1) = if 0 ≤ t ∧ t < (b.loseN i).count then { b.loseN i with devs := (b.loseN i).devs.set i d.kill, times := (b.loseN i).times.set i (-1) } else b.loseN i := by
      simp only [BusA.loseN, BusA.loseAt, htt, hd]
    conv => whnf
    refine Rq.mk (by exact ⟨by omega, by omega⟩) ?_
    conv => whnf
    refine ObjK.mk _ (hb1.t) ?_
    conv => whnf
    refine SubO.mk [.int .i64 t] (by simpa using get_one (fun n => FV.int .i64 n) _ i t htt) (by simp [ok1.t, l1]; omega) ?_
    conv => whnf
    refine GB.mk (fun h1 => ?_) (fun h1 => ?_)
    · simp only [decide_eq_true_eq] at h1
      conv => whnf
      refine ObjK.mk _ (hb1.o) ?_
      conv => whnf
      refine GB.mk (fun h2 => ?_) (fun h2 => ?_)
      · simp only [decide_eq_true_eq] at h2
        rw [if_pos ⟨h1, h2⟩] at hst
        conv => whnf
        refine ObjK.mk _ (hb1.o) ?_
        conv => whnf
        refine Rq.mk (by exact ⟨by omega, by rw [l1]; omega⟩) ?_
        conv => whnf
        refine ObjK.mk _ (hb1.d) ?_
        conv => whnf
        refine SubO.mk [.ptr p.1 0] (by simpa using get_one (fun p => FV.ptr p.1 0) L.ids i p hp) (by simp [hb.len]; omega) ?_
        conv => whnf
        refine CallX.mk (fun q => q = p.1) (fun q hq => ⟨.inl (hq ▸ (mem_id hp).1), id⟩) (dkill_c p.1 p.2 d _ (hb1.dev hp hd) _ ?_)
        conv => whnf
        rw [hb1.putDev hp hd, over_bus (by simp [BusA.setDev])]
        have ok2 := BusA.setDev_ok ok1 i (DevA.kill_fit (ok1.f d (List.mem_of_getElem? hd)))
        have hb2 := hb.over (b' := (b.loseN i).setDev i d.kill) ok2 (by simp [BusA.setDev, l1])
        refine ObjK.mk _ (hb2.o) ?_
        conv => whnf
        refine Rq.mk (by exact ⟨by omega, by simp [BusA.setDev, l1]; omega⟩) ?_
        conv => whnf
        refine ObjK.mk _ (hb2.t) ?_
        conv => whnf
        refine Rq.mk ⟨rfl, .inl mem_ot, by first | exact id | exact notMem rfl | exact fun hm => absurd rfl (List.mem_singleton.1 hm)⟩ ?_
        conv => whnf
        refine Rq.mk (by (simp [BusA.setDev, ok1.t, l1]; omega)) ?_
        conv => whnf
        refine Nm.mk (((b.loseN i).times.set i (-1)).map fun n => .int .i64 n) (by simpa [IO_, BusA.setDev] using over_one (fun n => FV.int .i64 n) (b.loseN i).times i (-1) (by rw [ok1.t, l1]; exact hlt)) ?_
        conv => whnf
        rw [hb2.putT', over_bus (by simp [BusA.setDev])]
        refine Wr.i64 (y := ((i + 1 : Nat) : Int)) (by omega) (by omega) (by omega) ?_
        conv => whnf
        exact ⟨⟨i + 1, hlt⟩, by dsimp only; omega, Le.of (by simp [leT]) (fun _ _ h => h) (by rw [hst]; exact fun _ _ h => h)⟩
      · simp only [decide_eq_false_iff_not] at h2
        rw [if_neg (fun hh => h2 hh.2)] at hst
        conv => whnf
        refine Wr.i64 (y := ((i + 1 : Nat) : Int)) (by omega) (by omega) (by omega) ?_
        conv => whnf
        exact ⟨⟨i + 1, hlt⟩, by dsimp only; omega, Le.of (by simp [leT]) (fun _ _ h => h) (by rw [hst]; exact fun _ _ h => h)⟩
    · simp only [decide_eq_false_iff_not] at h1
      rw [if_neg (fun hh => h1 hh.1)] at hst
      conv => whnf
      refine Wr.i64 (y := ((i + 1 : Nat) : Int)) (by omega) (by omega) (by omega) ?_
      conv => whnf
      exact ⟨⟨i + 1, hlt⟩, by dsimp only; omega, Le.of (by simp [leT]) (fun _ _ h => h) (by rw [hst]; exact fun _ _ h => h)⟩
  · have hin : i = b.devs.length := by simp at hc; omega
    subst hin
    conv => whnf
    refine ⟨_, Le.refl _, ?_⟩
    conv => whnf
    unfold BusA.lose at hK
    rw [ht] at hK
    exact Fin.same hK

theorem bcommand_c {h : Heap} {L : BusL} {b : BusA} (hb : BusAt h L b) (m : Int) (K : AV → Heap → Prop) (hK : K (.d (.int .i64 (b.command m).2)) (h.over (busH L (b.command m).1))) :
    C Try.prog (fun q => q ∈ L.all) 65 [.d (.ptr L.o 0), .d (.int .i64 m)] h K := by
  have u0 := hb.ok.u0
  have u1 := hb.ok.u1
  unfold BusA.command at hK
  refine C.of_body lay layf mixed (gl := fun _ => false) (dr := fun _ => none) _ _ _ Try.func65 rfl rfl rfl rfl rfl rfl ?_
  conv => whnf
  refine CallX.mk _ (fun _ h => h.elim) (bthere_c hb m _ ?_)
  conv => whnf
  refine GB.mk (fun h1 => ?_) (fun h1 => ?_)
  · rw [if_pos (by simpa using h1), hb.self] at hK
    conv => whnf
    exact Fin.same hK
  rw [if_neg (by simpa using h1)] at hK
  conv => whnf
  refine ObjK.mk _ (hb.o) ?_
  conv => whnf
  refine GB.mk (fun h2 => ?_) (fun h2 => ?_)
  · rw [if_pos h2, hb.self] at hK
    conv => whnf
    exact Fin.same hK
  rw [if_neg (by rw [h2]; simp)] at hK
  conv => whnf
  refine ObjK.mk _ (hb.o) ?_
  conv => whnf
  refine GB.mk (fun h3 => ?_) (fun h3 => ?_)
  · simp only [decide_eq_true_eq] at h3
    rw [if_pos h3] at hK
    conv => whnf
    refine ObjK.mk _ (hb.o) ?_
    conv => whnf
    refine Rq.mk ⟨rfl, .inl mem_o, by first | exact id | exact notMem rfl | exact fun hm => absurd rfl (List.mem_singleton.1 hm)⟩ ?_
    conv => whnf
    rw [← hb.putO (b' := { b with down := true }) rfl rfl rfl] at hK
    exact Fin.same hK
  simp only [decide_eq_false_iff_not] at h3
  rw [if_neg h3] at hK
  conv => whnf
  refine ObjK.mk _ (hb.o) ?_
  conv => whnf
  refine GB.mk (fun h4 => ?_) (fun h4 => ?_)
  · simp only [decide_eq_true_eq] at h4
    conv => whnf
    refine ObjK.mk _ (hb.o) ?_
    conv => whnf
    refine Wr.i64 (y := b.fuse - 1) rfl (by omega) (by omega) ?_
    conv => whnf
    refine ObjK.mk _ (hb.o) ?_
    conv => whnf
    refine Rq.mk ⟨rfl, .inl mem_o, by first | exact id | exact notMem rfl | exact fun hm => absurd rfl (List.mem_singleton.1 hm)⟩ ?_
    conv => whnf
    refine ObjK.mk _ (Heap.upd_same) ?_
    conv => whnf
    refine Wr.raw ?_
    conv => whnf
    refine ObjK.mk _ (Heap.upd_same) ?_
    conv => whnf
    refine Rq.mk ⟨rfl, .inl mem_o, by first | exact id | exact notMem rfl | exact fun hm => absurd rfl (List.mem_singleton.1 hm)⟩ ?_
    conv => whnf
    rw [Heap.upd_upd]
    have e1 : (⟨[.ref L.od 0 b.devs.length, L.fresh, .int .i64 (b.fuse - 1), .ref L.ot 0 b.devs.length, .ref L.otn 0 b.devs.length, .bool b.down, .int .i64 (IntKind.i64.wrap (b.count + 1)), .int .i64 b.bad], 74, 8, false, false⟩ : Rv.Obj) = BO L b.cmd1 := by simp [BO, BusA.cmd1, h4]
    rw [e1, hb.putO (b' := b.cmd1) rfl rfl rfl]
    refine CallX.mk (fun q => q ∈ L.all) (fun q hq => ⟨.inl hq, id⟩) (blose_c (hb.over (BusA.cmd1_ok hb.ok) rfl) _ ?_)
    rw [over_bus (by rw [show b.cmd1.lose.devs.length = b.cmd1.devs.length from (BusA.loseN_ok (BusA.cmd1_ok hb.ok) _).2.1])]
    conv => whnf
    exact Fin.same hK
  · simp only [decide_eq_false_iff_not] at h4
    conv => whnf
    refine ObjK.mk _ (hb.o) ?_
    conv => whnf
    refine Wr.raw ?_
    conv => whnf
    refine ObjK.mk _ (hb.o) ?_
    conv => whnf
    refine Rq.mk ⟨rfl, .inl mem_o, by first | exact id | exact notMem rfl | exact fun hm => absurd rfl (List.mem_singleton.1 hm)⟩ ?_
    conv => whnf
    have e1 : (⟨[.ref L.od 0 b.devs.length, L.fresh, .int .i64 b.fuse, .ref L.ot 0 b.devs.length, .ref L.otn 0 b.devs.length, .bool b.down, .int .i64 (IntKind.i64.wrap (b.count + 1)), .int .i64 b.bad], 74, 8, false, false⟩ : Rv.Obj) = BO L b.cmd1 := by simp [BO, BusA.cmd1, h4]
    rw [e1, hb.putO (b' := b.cmd1) rfl rfl rfl]
    refine CallX.mk (fun q => q ∈ L.all) (fun q hq => ⟨.inl hq, id⟩) (blose_c (hb.over (BusA.cmd1_ok hb.ok) rfl) _ ?_)
    rw [over_bus (by rw [show b.cmd1.lose.devs.length = b.cmd1.devs.length from (BusA.loseN_ok (BusA.cmd1_ok hb.ok) _).2.1])]
    conv => whnf
    exact Fin.same hK

theorem bmembers_c {h : Heap} {L : BusL} {b : BusA} (hb : BusAt h L b) (K : AV → Heap → Prop) (hK : K (.d (.int .i64 b.devs.length)) h) : C Try.prog (fun _ => False) 43 [.d (.ptr L.o 0)] h K := by
  refine C.of_body lay layf mixed (gl := fun _ => false) (dr := fun _ => none) _ _ _ Try.func43 rfl rfl rfl rfl rfl rfl ?_
  conv => whnf
  refine ObjK.mk _ (hb.o) ?_
  conv => whnf
  exact Fin.same hK

theorem bdead_c {h : Heap} {L : BusL} {b : BusA} (hb : BusAt h L b) (m : Int) (K : AV → Heap → Prop) (hK : K (.d (.bool (!b.there m || (b.dev m).dead))) h) : C Try.prog (fun _ => False) 17 [.d (.ptr L.o 0), .d (.int .i64 m)] h K := by
  refine C.of_body lay layf mixed (gl := fun _ => false) (dr := fun _ => none) _ _ _ Try.func17 rfl rfl rfl rfl rfl rfl ?_
  conv => whnf
  refine CallX.mk _ (fun _ h => h.elim) (bthere_c hb m _ ?_)
  conv => whnf
  refine GB.mk (fun h1 => ?_) (fun h1 => ?_)
  · rw [h1, Bool.true_or] at hK
    conv => whnf
    exact Fin.tt hK
  · rw [h1, Bool.false_or] at hK
    have ht : 0 ≤ m ∧ m < b.devs.length := by simpa [BusA.there] using h1
    obtain ⟨p, hp⟩ := hb.id (i := m.toNat) (by omega)
    conv => whnf
    refine ObjK.mk _ (hb.o) ?_
    conv => whnf
    refine Rq.mk (by exact ht) ?_
    conv => whnf
    refine ObjK.mk _ (hb.d) ?_
    conv => whnf
    refine SubO.mk [.ptr p.1 0] (by simpa using get_one (fun p => FV.ptr p.1 0) L.ids m.toNat p hp) (by simp [hb.len]; omega) ?_
    conv => whnf
    refine CallX.mk _ (fun _ h => h.elim) (ddead_c p.1 p.2 (b.dev m) _ (hb.dev hp (BusA.dev_get ht.1 ht.2)) _ ?_)
    conv => whnf
    exact Fin.same hK

theorem blook_c {h : Heap} {L : BusL} {b : BusA} (hb : BusAt h L b) (m z : Int) (K : AV → Heap → Prop) (h0 : ¬ (b.there m = true ∧ (b.dev m).right z = 0) → K (.tup [.agg [.int .i64 0, .int .i64 0, .bool false], .d (.bool false)]) h)
    (h1 : b.there m = true → (b.dev m).right z = 0 → K (.tup [.agg [.int .i64 ((b.dev m).at_ z).wp, .int .i64 ((b.dev m).at_ z).safe, .bool ((b.dev m).at_ z).done], .d (.bool true)]) h) :
    C Try.prog (fun _ => False) 18 [.d (.ptr L.o 0), .d (.int .i64 m), .d (.int .i64 z)] h K := by
  refine C.of_body lay layf mixed (gl := fun _ => false) (dr := fun _ => none) _ _ _ Try.func18 rfl rfl rfl rfl rfl rfl ?_
  conv => whnf
  refine CallX.mk _ (fun _ h => h.elim) (bthere_c hb m _ ?_)
  conv => whnf
  refine GB.mk (fun hc => ?_) (fun hc => ?_)
  · conv => whnf
    refine Rq.mk (by first | exact id | exact notMem rfl) ?_
    conv => whnf
    exact Fin.fz (fun _ => False) (.tup [.agg [.int .i64 0, .int .i64 0, .bool false], .d (.bool false)]) h (.tup2 (.refl _) .ff) (HFz.refl fun _ e => e.elim) (h0 fun hh => by rw [hh.1] at hc; cases hc)
  · have hc' : b.there m = true := by simpa using hc
    have ht : 0 ≤ m ∧ m < b.devs.length := by simpa [BusA.there] using hc'
    obtain ⟨p, hp⟩ := hb.id (i := m.toNat) (by omega)
    conv => whnf
    refine ObjK.mk _ (hb.o) ?_
    conv => whnf
    refine Rq.mk (by exact ht) ?_
    conv => whnf
    refine ObjK.mk _ (hb.d) ?_
    conv => whnf
    refine SubO.mk [.ptr p.1 0] (by simpa using get_one (fun p => FV.ptr p.1 0) L.ids m.toNat p hp) (by simp [hb.len]; omega) ?_
    conv => whnf
    refine CallX.mk _ (fun _ h => h.elim) (dlook_c p.1 p.2 (b.dev m) (BusA.dev_fit hb.ok ht.1 ht.2) z _ (hb.dev hp (BusA.dev_get ht.1 ht.2)) _ (fun hr => ?_) (fun hr => ?_))
    · conv => whnf
      refine Rq.mk (by first | exact id | exact notMem rfl) ?_
      conv => whnf
      exact Fin.same (h0 fun hh => hr hh.2)
    · conv => whnf
      refine Rq.mk (by first | exact id | exact notMem rfl) ?_
      conv => whnf
      exact Fin.same (h1 hc' hr)

theorem bdo0_c {h : Heap} {L : BusL} {b : BusA} (hb : BusAt h L b) (m z : Int) (f : Nat) (g : DevA → DevA × Int) (hfit : ∀ d : DevA, d.fit → (g d).1.fit)
    (hg : (b.command m).2 = 0 → ∀ p : Nat × Nat, L.ids[m.toNat]? = some p → DevAt (h.over (busH L (b.command m).1)) p.1 p.2 ((b.command m).1.dev m) → ((b.command m).1.dev m).fit → ∀ K : AV → Heap → Prop,
      K (.d (.int .i64 (g ((b.command m).1.dev m)).2)) (dput (h.over (busH L (b.command m).1)) p.1 p.2 (g ((b.command m).1.dev m)).1) →
      C Try.prog (fun q => q = p.1 ∨ q = p.2) f [.d (.ptr p.1 0), .d (.int .i64 z)] (h.over (busH L (b.command m).1)) K)
    (K : AV → Heap → Prop) (hK : K (.d (.int .i64 (b.do_ m g).2)) (h.over (busH L (b.do_ m g).1))) :
    C Try.prog (fun q => q ∈ L.all) 56 [.d (.ptr L.o 0), .d (.int .i64 m), .d (.int .i64 z), .d (.fn f [])] h K := by
  obtain ⟨ok1, l1, rng⟩ := BusA.command_ok hb.ok m
  have hb1 := hb.over ok1 l1
  have hcall := fun K hK => bcommand_c hb m K hK
  unfold BusA.do_ at hK
  generalize b.command m = r at *
  obtain ⟨b1, e⟩ := r
  dsimp only at ok1 l1 rng hb1 hK hg hcall
  refine C.of_body lay layf mixed (gl := fun _ => false) (dr := fun _ => none) _ _ _ Try.func56 rfl rfl rfl rfl rfl rfl ?_
  conv => whnf
  refine CallX.mk (fun q => q ∈ L.all) (fun q hq => ⟨.inl hq, id⟩) (hcall _ ?_)
  conv => whnf
  refine GB.mk (fun he => ?_) (fun he => ?_)
  · simp only [decide_eq_true_eq] at he
    rw [if_pos he] at hK
    conv => whnf
    exact Fin.same hK
  · simp only [decide_eq_false_iff_not, Classical.not_not] at he
    rw [if_neg (by omega)] at hK
    obtain ⟨r0, r1⟩ := rng he
    rw [← l1] at r1
    obtain ⟨p, hp⟩ := hb1.id (i := m.toNat) (by omega)
    have hd := BusA.dev_get r0 r1
    conv => whnf
    refine ObjK.mk _ (hb1.o) ?_
    conv => whnf
    refine Rq.mk (by exact ⟨r0, r1⟩) ?_
    conv => whnf
    refine ObjK.mk _ (hb1.d) ?_
    conv => whnf
    refine SubO.mk [.ptr p.1 0] (by simpa using get_one (fun p => FV.ptr p.1 0) L.ids m.toNat p hp) (by simp [hb1.len]; omega) ?_
    conv => whnf
    refine CallX.mk (fun q => q = p.1 ∨ q = p.2) (fun q hq => ⟨.inl (hq.elim (fun e => e ▸ (mem_id hp).1) (fun e => e ▸ (mem_id hp).2)), id⟩) (hg he p hp (hb1.dev hp hd) (BusA.dev_fit ok1 r0 r1) _ ?_)
    conv => whnf
    rw [hb1.putDev hp hd, over_bus (by simp [BusA.setDev])]
    exact Fin.same hK

theorem bdo1_c {h : Heap} {L : BusL} {b : BusA} (hb : BusAt h L b) (m z : Int) (f : Nat) (o1 : Nat) (g : DevA → DevA × Int) (hfit : ∀ d : DevA, d.fit → (g d).1.fit)
    (hg : (b.command m).2 = 0 → ∀ p : Nat × Nat, L.ids[m.toNat]? = some p → DevAt (h.over (busH L (b.command m).1)) p.1 p.2 ((b.command m).1.dev m) → ((b.command m).1.dev m).fit → ∀ K : AV → Heap → Prop,
      K (.d (.int .i64 (g ((b.command m).1.dev m)).2)) (dput (h.over (busH L (b.command m).1)) p.1 p.2 (g ((b.command m).1.dev m)).1) →
      C Try.prog (fun q => q = p.1 ∨ q = p.2) f [.d (.ptr p.1 0), .d (.int .i64 z), .d (.ptr o1 0)] (h.over (busH L (b.command m).1)) K)
    (K : AV → Heap → Prop) (hK : K (.d (.int .i64 (b.do_ m g).2)) (h.over (busH L (b.do_ m g).1))) :
    C Try.prog (fun q => q ∈ L.all) 56 [.d (.ptr L.o 0), .d (.int .i64 m), .d (.int .i64 z), .d (.fn f [.ptr o1 0])] h K := by
  obtain ⟨ok1, l1, rng⟩ := BusA.command_ok hb.ok m
  have hb1 := hb.over ok1 l1
  have hcall := fun K hK => bcommand_c hb m K hK
  unfold BusA.do_ at hK
  generalize b.command m = r at *
  obtain ⟨b1, e⟩ := r
  dsimp only at ok1 l1 rng hb1 hK hg hcall
  refine C.of_body lay layf mixed (gl := fun _ => false) (dr := fun _ => none) _ _ _ Try.func56 rfl rfl rfl rfl rfl rfl ?_
  conv => whnf
  refine CallX.mk (fun q => q ∈ L.all) (fun q hq => ⟨.inl hq, id⟩) (hcall _ ?_)
  conv => whnf
  refine GB.mk (fun he => ?_) (fun he => ?_)
  · simp only [decide_eq_true_eq] at he
    rw [if_pos he] at hK
    conv => whnf
    exact Fin.same hK
  · simp only [decide_eq_false_iff_not, Classical.not_not] at he
    rw [if_neg (by omega)] at hK
    obtain ⟨r0, r1⟩ := rng he
    rw [← l1] at r1
    obtain ⟨p, hp⟩ := hb1.id (i := m.toNat) (by omega)
    have hd := BusA.dev_get r0 r1
    conv => whnf
    refine ObjK.mk _ (hb1.o) ?_
    conv => whnf
    refine Rq.mk (by exact ⟨r0, r1⟩) ?_
    conv => whnf
    refine ObjK.mk _ (hb1.d) ?_
    conv => whnf
    refine SubO.mk [.ptr p.1 0] (by simpa using get_one (fun p => FV.ptr p.1 0) L.ids m.toNat p hp) (by simp [hb1.len]; omega) ?_
    conv => whnf
    refine CallX.mk (fun q => q = p.1 ∨ q = p.2) (fun q hq => ⟨.inl (hq.elim (fun e => e ▸ (mem_id hp).1) (fun e => e ▸ (mem_id hp).2)), id⟩) (hg he p hp (hb1.dev hp hd) (BusA.dev_fit ok1 r0 r1) _ ?_)
    conv => whnf
    rw [hb1.putDev hp hd, over_bus (by simp [BusA.setDev])]
    exact Fin.same hK

theorem bfinish_c {h : Heap} {L : BusL} {b : BusA} (hb : BusAt h L b) (m z : Int) (K : AV → Heap → Prop) (hK : K (.d (.int .i64 (b.finish m z).2)) (h.over (busH L (b.finish m z).1))) :
    C Try.prog (fun q => q ∈ L.all) 36 [.d (.ptr L.o 0), .d (.int .i64 m), .d (.int .i64 z)] h K := by
  refine C.of_body lay layf mixed (gl := fun _ => false) (dr := fun _ => none) _ _ _ Try.func36 rfl rfl rfl rfl rfl rfl ?_
  conv => whnf
  refine CallX.mk (fun q => q ∈ L.all) (fun q hq => ⟨.inl hq, id⟩) (bdo0_c hb m z 59 (fun d => d.finish z) (fun d hd => DevA.finish_fit hd z) (fun _ p _ hd hf K hK => dfinish_c p.1 p.2 _ hf z _ hd K hK) _ ?_)
  conv => whnf
  exact Fin.same hK

theorem bflush_c {h : Heap} {L : BusL} {b : BusA} (hb : BusAt h L b) (m : Int) (K : AV → Heap → Prop) (hK : K (.d (.int .i64 (b.flush m).2)) (h.over (busH L (b.flush m).1))) :
    C Try.prog (fun q => q ∈ L.all) 41 [.d (.ptr L.o 0), .d (.int .i64 m)] h K := by
  have flush1 : ∀ (p : Nat × Nat) (z : Int) (d : DevA) (h : Heap), DevAt h p.1 p.2 d → d.fit → ∀ K : AV → Heap → Prop, K (.d (.int .i64 d.flush.2)) (dput h p.1 p.2 d.flush.1) → C Try.prog (fun q => q = p.1 ∨ q = p.2) 60 [.d (.ptr p.1 0), .d (.int .i64 z)] h K := by
    intro p z d h hd hf K hK
    refine C.of_body lay layf mixed (gl := fun _ => false) (dr := fun _ => none) _ _ _ Try.func60 rfl rfl rfl rfl rfl rfl ?_
    conv => whnf
    refine CallX.mk (fun q => q = p.1 ∨ q = p.2) (fun q hq => ⟨.inl hq, id⟩) (dflush_c p.1 p.2 d hf h hd _ ?_)
    conv => whnf
    exact Fin.same hK
  refine C.of_body lay layf mixed (gl := fun _ => false) (dr := fun _ => none) _ _ _ Try.func41 rfl rfl rfl rfl rfl rfl ?_
  conv => whnf
  refine CallX.mk (fun q => q ∈ L.all) (fun q hq => ⟨.inl hq, id⟩) (bdo0_c hb m 0 60 DevA.flush (fun d hd => DevA.flush_fit hd) (fun _ p _ hd hf K hK => flush1 p 0 _ _ hd hf K hK) _ ?_)
  conv => whnf
  exact Fin.same hK

theorem over_new {h : Heap} {L : BusL} {b b' : BusA} (hb : BusAt h L b) (hl : b'.devs.length = b.devs.length) {p : Nat} {x : Rv.Obj} (hp : h p = none) : (h.upd p x).over (busH L b') = (h.over (busH L b')).upd p x := by
  have hn : busH L b' p = none := by
    cases e : busH L b' p with
    | none => rfl
    | some y => obtain ⟨z, hz⟩ := busH_dom hl p y e; rw [hb.has p z hz] at hp; cases hp
  funext q
  unfold Heap.over Heap.upd
  by_cases e : q = p
  · subst e; rw [hn]; simp
  · simp [e]
theorem BusAt.keep {h : Heap} {L : BusL} {b : BusA} (hb : BusAt h L b) {p : Nat} {x : Rv.Obj} (hp : h p = none) : BusAt (h.upd p x) L b := ⟨fun q y e => Heap.keep hp (hb.has q y e), hb.ok, hb.len, hb.nd⟩
theorem over_fresh {h : Heap} {L : BusL} {b b' : BusA} (hb : BusAt h L b) (hl : b'.devs.length = b.devs.length) {p : Nat} (hp : h p = none) : h.over (busH L b') p = none := by
  unfold Heap.over
  cases e : busH L b' p with
  | none => exact hp
  | some y => obtain ⟨z, hz⟩ := busH_dom hl p y e; rw [hb.has p z hz] at hp; cases hp
theorem BusA.do_len {b : BusA} (hb : b.ok) (m : Int) (g : DevA → DevA × Int) : (b.do_ m g).1.devs.length = b.devs.length := by
  obtain ⟨_, l1, _⟩ := BusA.command_ok hb m
  unfold BusA.do_; split
  · exact l1
  · simp [BusA.setDev, l1]

theorem bappend_c {h : Heap} {L : BusL} {b : BusA} (hb : BusAt h L b) (m z : Int) (x : List UInt8) (hx : x.length ≤ 274877906944) (K : AV → Heap → Prop) (hK : K (.d (.int .i64 (b.app m z x).2)) (h.over (busH L (b.app m z x).1))) :
    C Try.prog (fun q => q ∈ L.all) 34 [.d (.ptr L.o 0), .d (.int .i64 m), .d (.int .i64 z), .d (BL x)] h K := by
  have app1 : ∀ (p : Nat × Nat) (bx : Nat) (d : DevA) (h : Heap), h bx = some ⟨[BL x], 22, 1, false, false⟩ → DevAt h p.1 p.2 d → d.fit → ∀ K : AV → Heap → Prop, K (.d (.int .i64 (d.app z x).2)) (dput h p.1 p.2 (d.app z x).1) →
      C Try.prog (fun q => q = p.1 ∨ q = p.2) 57 [.d (.ptr p.1 0), .d (.int .i64 z), .d (.ptr bx 0)] h K := by
    intro p bx d h hbx hd hf K hK
    refine C.of_body lay layf mixed (gl := fun _ => false) (dr := fun _ => none) _ _ _ Try.func57 rfl rfl rfl rfl rfl rfl ?_
    conv => whnf
    refine ObjK.mk _ (hbx) ?_
    conv => whnf
    refine CallX.mk (fun q => q = p.1 ∨ q = p.2) (fun q hq => ⟨.inl hq, id⟩) (dappend_c p.1 p.2 d hf z x hx h hd _ ?_)
    conv => whnf
    exact Fin.same hK
  refine C.of_body lay layf mixed (gl := fun t => Nat.beq t 7) (dr := fun _ => none) _ _ _ Try.func34 rfl rfl rfl rfl rfl rfl ?_
  conv => whnf
  refine NewK.mk fun bx hbx => ?_
  conv => whnf
  refine CallX.mk (fun q => q ∈ L.all) (fun q hq => ⟨.inl hq, id⟩) (bdo1_c (hb.keep hbx) m z 57 bx (fun d => d.app z x) (fun d hd => DevA.app_fit hd z x)
    (fun _ p _ hd hf K hK => app1 p bx _ _ (by rw [over_new hb (BusA.command_ok hb.ok m).2.1 hbx]; exact Heap.upd_same) hd hf K hK) _ ?_)
  conv => whnf
  have hl := BusA.do_len hb.ok m (fun d => d.app z x)
  rw [over_new hb hl hbx]
  exact Rv.Fin.mk _ (Heap.sub_upd (over_fresh hb hl hbx)) hK

theorem bread_c {h : Heap} {L : BusL} {b : BusA} (hb : BusAt h L b) (m z at_ n : Int) (K : AV → Heap → Prop) (hK : K (.tup [.d (BL (b.read m z at_ n).2.1), .d (.int .i64 (b.read m z at_ n).2.2)]) (h.over (busH L (b.read m z at_ n).1))) :
    C Try.prog (fun q => q ∈ L.all) 49 [.d (.ptr L.o 0), .d (.int .i64 m), .d (.int .i64 z), .d (.int .i64 at_), .d (.int .i64 n)] h K := by
  obtain ⟨ok1, l1, rng⟩ := BusA.command_ok hb.ok m
  have hb1 := hb.over ok1 l1
  have hcall := fun K hK => bcommand_c hb m K hK
  unfold BusA.read at hK
  generalize b.command m = r at *
  obtain ⟨b1, e⟩ := r
  dsimp only at ok1 l1 rng hb1 hK hcall
  refine C.of_body lay layf mixed (gl := fun _ => false) (dr := fun _ => none) _ _ _ Try.func49 rfl rfl rfl rfl rfl rfl ?_
  conv => whnf
  refine CallX.mk (fun q => q ∈ L.all) (fun q hq => ⟨.inl hq, id⟩) (hcall _ ?_)
  conv => whnf
  refine GB.mk (fun he => ?_) (fun he => ?_)
  · simp only [decide_eq_true_eq] at he
    rw [if_pos he] at hK
    conv => whnf
    exact Fin.fz (fun _ => False) (.tup [.d (BL []), .d (.int .i64 e)]) _ (.tup2 (.d .nilL) (.refl _)) (HFz.refl fun _ e => e.elim) hK
  · simp only [decide_eq_false_iff_not, Classical.not_not] at he
    rw [if_neg (by omega)] at hK
    obtain ⟨r0, r1⟩ := rng he
    rw [← l1] at r1
    obtain ⟨p, hp⟩ := hb1.id (i := m.toNat) (by omega)
    have hd := BusA.dev_get r0 r1
    conv => whnf
    refine ObjK.mk _ (hb1.o) ?_
    conv => whnf
    refine Rq.mk (by exact ⟨r0, r1⟩) ?_
    conv => whnf
    refine ObjK.mk _ (hb1.d) ?_
    conv => whnf
    refine SubO.mk [.ptr p.1 0] (by simpa using get_one (fun p => FV.ptr p.1 0) L.ids m.toNat p hp) (by simp [hb1.len]; omega) ?_
    conv => whnf
    refine CallX.mk (fun q => q = p.1) (fun q hq => ⟨.inl (hq ▸ (mem_id hp).1), id⟩) (dread_c p.1 p.2 _ (BusA.dev_fit ok1 r0 r1) z at_ n _ (hb1.dev hp hd) _ ?_)
    conv => whnf
    rw [hb1.putDev hp hd, over_bus (by simp [BusA.setDev])]
    exact Fin.same hK

theorem bkill_c {h : Heap} {L : BusL} {b : BusA} (hb : BusAt h L b) (m n : Int) (K : AV → Heap → Prop) (hK : K (.tup []) (h.over (busH L (b.kill m n)))) : C Try.prog (fun q => q ∈ L.all) 42 [.d (.ptr L.o 0), .d (.int .i64 m), .d (.int .i64 n)] h K := by
  unfold BusA.kill at hK
  refine C.of_body lay layf mixed (gl := fun _ => false) (dr := fun r => match r with | 0 => some (.flo 0 (.flo 1 (.flo 2 (.flo 3 (.flo 4 (.flo 5 (.flo 6 (.flo 7 (.flo 8 (.flo 9 (.flo 10 (.flo 11 (.flo 12 (.alt 13 (.fin) (.non))))))))))))))) | _ => none) _ _ _ Try.func42 rfl rfl rfl rfl (by kernel_rfl) rfl ?_
  conv => whnf
  refine CallX.mk _ (fun _ h => h.elim) (bthere_c hb m _ ?_)
  conv => whnf
  refine GB.mk (fun hc => ?_) (fun hc => ?_)
  · rw [if_pos (by simpa using hc), hb.self] at hK
    conv => whnf
    exact Fin.same hK
  have hc' : b.there m = true := by simpa using hc
  have ht : 0 ≤ m ∧ m < b.devs.length := by simpa [BusA.there] using hc'
  rw [if_neg (by rw [hc']; simp)] at hK
  obtain ⟨p, hp⟩ := hb.id (i := m.toNat) (by omega)
  have hd := BusA.dev_get ht.1 ht.2
  conv => whnf
  refine GB.mk (fun hn => ?_) (fun hn => ?_)
  · simp only [decide_eq_true_eq] at hn
    rw [if_pos hn] at hK
    conv => whnf
    refine ObjK.mk _ (hb.o) ?_
    conv => whnf
    refine Rq.mk (by exact ht) ?_
    conv => whnf
    refine ObjK.mk _ (hb.d) ?_
    conv => whnf
    refine SubO.mk [.ptr p.1 0] (by simpa using get_one (fun p => FV.ptr p.1 0) L.ids m.toNat p hp) (by simp [hb.len]; omega) ?_
    conv => whnf
    refine CallX.mk (fun q => q = p.1) (fun q hq => ⟨.inl (hq ▸ (mem_id hp).1), id⟩) (dkill_c p.1 p.2 _ _ (hb.dev hp hd) _ ?_)
    conv => whnf
    rw [hb.putDev hp hd]
    exact Fin.same hK
  · simp only [decide_eq_false_iff_not] at hn
    rw [if_neg hn] at hK
    conv => whnf
    refine ObjK.mk _ (hb.o) ?_
    conv => whnf
    refine ObjK.mk _ (hb.o) ?_
    conv => whnf
    refine Wr.raw ?_
    conv => whnf
    refine Rq.mk (by exact ht) ?_
    conv => whnf
    refine ObjK.mk _ (hb.t) ?_
    conv => whnf
    refine Rq.mk ⟨rfl, .inl mem_ot, by first | exact id | exact notMem rfl | exact fun hm => hb.ne.2.1.symm (List.mem_singleton.1 hm)⟩ ?_
    conv => whnf
    refine Rq.mk (by (simp [hb.ok.t]; omega)) ?_
    conv => whnf
    refine Nm.mk ((b.times.set m.toNat (IntKind.i64.wrap (b.count + min n 1099511627776))).map fun n => .int .i64 n) (by simpa [IO_] using over_one (fun n => FV.int .i64 n) b.times m.toNat _ (by rw [hb.ok.t]; omega)) ?_
    conv => whnf
    repeat (refine Rq.mk ?_ ?_; (focus (first | (rw [(Heap.upd_ne hb.ne.2.1), hb.o]; simp; done))); conv => whnf)
    rw [hb.putT']
    exact Fin.same hK

/-! A new bus. -/
def delO (h : Heap) (c : Option Nat) : Heap := match c with
  | none => h
  | some o => h.del o
/-- A slice that grows, in a heap. -/
structure AccAt (h : Heap) (c : Option Nat) (n : Nat) (cells : List FV) (ty es : Nat) : Prop where
  nil : c = none → n = 0 ∧ cells = []
  get : ∀ o, c = some o → h o = some ⟨cells, ty, es, false, true⟩
theorem AccAt.eq {h : Heap} {c : Option Nat} {n : Nat} {cells : List FV} {ty es : Nat} (a : AccAt h c n cells ty es) : h = accH (delO h c) c ⟨cells, ty, es, false, true⟩ := by
  cases c with
  | none => rfl
  | some o =>
    funext q
    simp only [accH, delO]
    by_cases e : q = o
    · subst e; rw [Heap.upd_same, a.get q rfl]
    · rw [Heap.upd_ne e, Heap.del_ne e]
theorem AccAt.ok {h : Heap} {c : Option Nat} {n : Nat} {cells : List FV} {ty es : Nat} (a : AccAt h c n cells ty es) : AccOK (delO h c) c n cells := ⟨fun o ho => by subst ho; simp [delO, Heap.del], a.nil⟩
theorem delO_get {h : Heap} {c : Option Nat} {q : Nat} {x : Rv.Obj} (e : h q = some x) (hc : c ≠ some q) : delO h c q = some x := by
  cases c with
  | none => exact e
  | some o => exact (Heap.del_ne (by rintro rfl; exact hc rfl)).trans e
theorem AccAt.new {h : Heap} {c : Option Nat} {n : Nat} {cells : List FV} {ty es : Nat} (ok : AccOK h c n cells) : AccAt (accH h c ⟨cells, ty, es, false, true⟩) c n cells ty es := ⟨ok.nil, fun o ho => by subst ho; exact Heap.upd_same⟩
theorem AccAt.mono {h h' : Heap} {c : Option Nat} {n : Nat} {cells : List FV} {ty es : Nat} (a : AccAt h c n cells ty es) (hm : ∀ o, c = some o → ∀ x, h o = some x → h' o = some x) : AccAt h' c n cells ty es := ⟨a.nil, fun o ho => hm o ho _ (a.get o ho)⟩

def frF (zones cap block limit : Int) : FV := .fn 30 [.fptr [.int .i64 zones] 0, .fptr [.int .i64 cap] 0, .fptr [.int .i64 block] 0, .fptr [.int .i64 limit] 0]
def IB (n : Int) : Rv.Obj := ⟨[.int .i64 n], 3, 1, false, false⟩

theorem fresh_c (b6 b7 b8 b9 : Nat) (zones cap block limit : Int) (g : (1 ≤ zones ∧ zones ≤ 64) ∧ (1 ≤ cap ∧ cap ≤ 4096) ∧ (1 ≤ block ∧ block ≤ 4096) ∧ 1 ≤ limit) (h : Heap) (h6 : h b6 = some (IB zones)) (h7 : h b7 = some (IB cap)) (h8 : h b8 = some (IB block)) (h9 : h b9 = some (IB limit))
    (K : AV → Heap → Prop) (hK : ∀ o oz, h o = none → h oz = none → o ≠ oz → K (.d (.ptr o 0)) (dput h o oz (.new zones cap block limit))) :
    C Try.prog (fun _ => False) 30 [.d (.ptr b6 0), .d (.ptr b7 0), .d (.ptr b8 0), .d (.ptr b9 0)] h K := by
  refine C.of_body lay layf mixed (gl := fun _ => false) (dr := fun _ => none) _ _ _ Try.func30 rfl rfl rfl rfl rfl rfl ?_
  conv => whnf
  refine ObjK.mk _ (h6) ?_
  conv => whnf
  refine ObjK.mk _ (h7) ?_
  conv => whnf
  refine ObjK.mk _ (h8) ?_
  conv => whnf
  refine ObjK.mk _ (h9) ?_
  conv => whnf
  refine CallX.mk _ (fun _ h => h.elim) (dnew_c zones cap block limit h _ (fun hn => absurd g hn) (fun _ o oz ho hz hne => ?_))
  conv => whnf
  exact Fin.same (hK o oz ho hz hne)
end Go.Proofs.Ytjnhijpophmmgaa
