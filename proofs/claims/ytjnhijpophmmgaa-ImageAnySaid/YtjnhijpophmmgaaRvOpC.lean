/- RvOpC: copy, calls; 'opA': any operation, and its law. -/
import Derived.Test.YtjnhijpophmmgaaRvOpB
import Derived.KernelRfl
import Derived.Test.YtjnhijpophmmgaaRvFz
set_option linter.unusedVariables false
set_option linter.unusedSimpArgs false
namespace Go.Proofs.Rv
open Go

section
variable {P : Program} {B0 N : Nat} {Z : Nat → Prop} {m : Nat → Option Blk} {ml : Nat → Option Nat} {w w' : World} {s : St} {a : Act} {T : Nat → Prop} {h0 : Heap} {pd pds : Nat → Prop}

theorem copyA_ok {L : LE} (hL : LayOK P L) (r : RR B0 N Z m ml s a w) {t t2 ty : Nat} {x y : AV} {vx vy : Value} {K : AV → Heap → Prop} (hx : VA N Z m ml w x vx) (hy : VA N Z m ml w y vy)
    (h : copyA L T h0 pd s t x y K) :
    ∃ q v h' w', K q h' ∧ (Builtin.copy_ #[t, t2] ty #[vx, vy]).run P w = .ok v w' ∧ VA N Z m ml w' q v ∧ RR B0 N Z m ml { s with h := h' } a w' ∧ Eff T h0 pd pds N Z m ml w N Z m w' := by
  replace h := copyA_old _ _ _ _ _ _ _ _ _ h
  unfold copyA0 at h
  split at h
  · exact h.elim
  · rename_i l hl
    have hu := hL.desc t l hl
    split at h
    · rename_i e hd
      rw [hd] at hu
      have hu : P.underlying t = some (.slice e) := hu
      split at h
      · exact h.elim
      · rename_i le hle
        split at h
        · exact h.elim
        · rename_i hs1
          have hs1 : le.size = 1 := by simpa using hs1
          obtain ⟨i, z, i1, i2, _⟩ := hL.info e le hle
          have hsz : (P.info? e).map (·.size) = some 1 := by rw [i1]; simp [i2, hs1]
          obtain ⟨mm, news, hk, hnl, hsrc⟩ := srcK_ok r hy h
          clear h
          split at hk
          · rename_i o off n
            obtain ⟨ob, ho, h⟩ := hk.get
            obtain ⟨cs, tyo, es, ro, ar⟩ := ob
            simp only at h
            obtain ⟨⟨hok, har, hes, hfit⟩, h⟩ := h.get
            have hK := h.get
            clear h hk
            cases hx; rename_i hx; cases hx; rename_i av cap hoN ha hn
            obtain ⟨b, arr, hb, b1, b2, b3, b4, b5, b6, b7⟩ := r.H.obj o _ ho
            have b3 : w.heap[b.b]? = some (.cells arr tyo (0, 0)) := b3
            have b5 : cs.length ≤ b.sz := b5
            have b6 : ∀ (i : Nat) (x : FV), cs[i]? = some x → ∃ v, arr[i]? = some v ∧ VF N Z m w x v := b6
            obtain ⟨a1, a2, a3⟩ := ha b hb
            have hlen : news.length = mm := by simpa using hnl
            have hdone : ∀ (w' : World) (nv : List Value), nv.length = (news.take n).length → Row N Z m w (news.take n) nv.toArray →
                w' = w.setRow b.b (arr.toList.take off ++ nv ++ arr.toList.drop (off + nv.length)).toArray →
                RR B0 N Z m ml { s with h := s.h.upd o ⟨over cs off (news.take n), tyo, es, ro, ar⟩ } a w' ∧ Eff T h0 pd pds N Z m ml w N Z m w' := by
              intro w' nv hnv hrow hw'
              have h1 : off + (news.take n).length ≤ cs.length := by simp; omega
              have hst := row_store b6 (by omega) hrow h1
              obtain ⟨r', hstp⟩ := r.setObj ho hok.ro hb b3 (cells := over cs off (news.take n)) (news := (arr.toList.take off ++ nv ++ arr.toList.drop (off + nv.length)).toArray)
                (by simp at hnv ⊢; omega) (by rw [length_over h1]; simp at hnv ⊢; omega) hst
              rw [hw']
              exact ⟨r', fun q => q = o, fun _ => False, hstp _ _ rfl, fun q hq => by rw [hq]; exact ⟨hok.may, hok.pd⟩, fun _ h => h.elim⟩
            by_cases h0' : Nat.min mm n = 0
            · have e0 : news.take n = [] := by
                have h00 : min mm n = 0 := h0'
                refine List.eq_nil_of_length_eq_zero ?_
                rw [List.length_take, hlen]; omega
              have hself : w = w.setRow b.b (arr.toList.take off ++ [] ++ arr.toList.drop (off + ([] : List Value).length)).toArray := by
                have : (arr.toList.take off ++ [] ++ arr.toList.drop (off + ([] : List Value).length)).toArray = arr := by simp
                rw [this, setRow_self w b.b arr tyo (0, 0) b3]
              obtain ⟨r', heff⟩ := hdone w [] (by rw [e0]; rfl) (by rw [e0]; exact ⟨rfl, by simp⟩) hself
              rcases hsrc with ⟨rfl, rfl, rfl⟩ | ⟨ad, c, nv, rfl, _⟩
              · have hrun := run_copy_none (P := P) w t t2 ty e (some av) none n cap 0 0 hu hsz h0'
                exact ⟨_, _, _, w, hK, hrun, by rw [h0']; exact .d (.int _ _), r', heff⟩
              · have hrun := run_copy_none (P := P) w t t2 ty e (some av) (some ad) n cap mm c hu hsz h0'
                exact ⟨_, _, _, w, hK, hrun, by rw [h0']; exact .d (.int _ _), r', heff⟩
            · rcases hsrc with ⟨rfl, rfl, rfl⟩ | ⟨ad, c, nv, rfl, n1, n2, n3, n4⟩
              · exact absurd (Nat.zero_min n) h0'
              · have hpos : 0 < n ∧ 0 < mm := by
                  have : min mm n ≠ 0 := h0'
                  omega
                obtain rfl := a1 (.inl (by omega))
                have hmin : Nat.min mm n = min mm n := rfl
                have hl1 : (nv.take n).length = Nat.min mm n := by rw [List.length_take, n1, Nat.mul_one, hmin]; omega
                have hrun := run_copy_row (P := P) w t t2 ty e b.b off n cap ad mm c arr tyo (nv.take n) hu hsz b3 hl1
                  (fun j v hj => by
                    have hjn : j < n := by have := (List.getElem?_eq_some_iff.1 hj).1; simp at this; omega
                    rw [List.getElem?_take_of_lt hjn] at hj
                    exact n2 j v hj) (by rw [hl1, hmin]; omega) (fun v hv => n3 v (List.mem_of_mem_take hv))
                have hrow : Row N Z m w (news.take n) (nv.take n).toArray := by
                  refine ⟨by simp [n1, hlen], fun i x v hx hv => ?_⟩
                  have hin : i < n := by have := (List.getElem?_eq_some_iff.1 hx).1; simp at this; omega
                  rw [List.getElem?_take_of_lt hin] at hx
                  simp only [List.getElem?_toArray] at hv
                  rw [List.getElem?_take_of_lt hin] at hv
                  exact n4.2 i x v hx (by simpa using hv)
                obtain ⟨r', heff⟩ := hdone _ (nv.take n) (by simp [n1, hlen]) hrow rfl
                rw [hl1] at hrun
                refine ⟨_, _, _, _, hK, ?_, .d (.int _ _), r', heff⟩
                rw [hrun, hl1]; simp [goInt]
          · exact hk.elim
    · exact h.elim

end

theorem buildSlF_ok {P : Program} {B0 N : Nat} {Z : Nat → Prop} {m : Nat → Option Blk} {ml : Nat → Option Nat} {w : World} {s : St} {a : Act} {T : Nat → Prop} {h0 : Heap} {pd pds : Nat → Prop} {L : LE} (hL : LayOK P L) (r : RR B0 N Z m ml s a w) {t n : Nat} {ps : Array (Nat × Operand)} {K : AV → Prop}
    (h : buildSlF L s t n ps.toList K) :
    ∃ q v N' Z' m' ml' w', K q ∧ (∀ t, ml' t = ml t) ∧ (Instr.buildSlice t n (ps.map fun (i, x) => (i, a.eval x))).run P w = .ok v w' ∧ VA N' Z' m' ml' w' q v ∧ RR B0 N' Z' m' ml' s a w' ∧ Eff T h0 pd pds N Z m ml w N' Z' m' w' := by
  obtain ⟨q, v, h', N', m', w', ⟨o, cells, e, es, rfl, rfl, ho, hk⟩, h2, h3, h4, TT, SS, h5, h6, h7⟩ := buildSlA_ok (T := T) (h0 := h0) (pd := pd) (pds := pds) (K := fun q h' => ∃ o cells e es, q = .d (.ref o 0 n) ∧ h' = s.h.upd o ⟨cells, e, es, false, true⟩ ∧ s.h o = none ∧ K (.d (.lst n cells))) hL r
    (buildSlA_new _ _ _ _ _ _ (buildSlG_mono (fun e es cs hc => NewK.mk fun o ho => ⟨o, cs, e, es, rfl, rfl, ho, hc⟩) h))
  have hfz : HFz (fun p => p = o) (s.h.upd o ⟨cells, e, es, false, true⟩) s.h := HFz.sub fun p ob hp => by
    have hne : p ≠ o := by rintro rfl; rw [ho] at hp; cases hp
    exact ⟨hne, by rw [Heap.upd_ne hne]; exact hp⟩
  obtain ⟨Z'', m'', ml', r', hZ, hm, hms, hzz, hml, key⟩ := h4.le (s' := s) (F := fun p => p = o) ⟨rfl, fun i x y hx hy => by rw [hx] at hy; cases hy; exact .refl _, fun t cs hc => ⟨cs, hc, rfl, .refl _ _ _⟩, hfz, fun _ _ _ h => h⟩
  refine ⟨_, v, N', Z'', m'', ml', w', hk, hml rfl, h2, ?_, r', TT, SS, ?_, h6, h7⟩
  · cases h3; rename_i h3
    exact .d (key (.ref0 (ob := ⟨cells, e, es, false, true⟩) rfl Heap.upd_same (.refl _ _ _)) h3)
  · exact h5.fz hZ hm hms hzz

def argsK (tm : List AV) : List Operand → (List AV → Prop) → Prop
  | [], k => k []
  | x :: xs, k => fc (evA tm x) fun v => argsK tm xs fun vs => k (v :: vs)

theorem argsK_ok {tm : List AV} : ∀ {xs : List Operand} {k : List AV → Prop}, argsK tm xs k → k (xs.map (evA tm))
  | [], _, h => h
  | x :: xs, k, h => argsK_ok (xs := xs) (k := fun vs => k (evA tm x :: vs)) (fc_ok h)

def wrapD : List FV → (List AV → Prop) → Prop
  | [], k => k []
  | y :: ys, k => wrapD ys fun zs => k (.d y :: zs)

def appD : List AV → List FV → (List AV → Prop) → Prop
  | [], ys, k => wrapD ys k
  | x :: xs, ys, k => appD xs ys fun zs => k (x :: zs)

theorem wrapD_ok : ∀ {ys : List FV} {k : List AV → Prop}, wrapD ys k → k (ys.map .d)
  | [], _, h => h
  | y :: ys, k, h => wrapD_ok (ys := ys) (k := fun zs => k (.d y :: zs)) h

theorem appD_ok : ∀ {xs : List AV} {ys : List FV} {k : List AV → Prop}, appD xs ys k → k (xs ++ ys.map .d)
  | [], ys, k, h => by simpa using wrapD_ok (ys := ys) (k := k) h
  | x :: xs, ys, k, h => appD_ok (xs := xs) (ys := ys) (k := fun zs => k (x :: zs)) h

/-- A call: by a contract. -/
structure CallX (P : Program) (T : Nat → Prop) (h0 : Heap) (pd : Nat → Prop) (f : FuncId) (args : List AV) (h : Heap) (K : AV → Heap → Prop) : Prop where intro ::
  out : ∃ T', (∀ o, T' o → (T o ∨ h0 o = none) ∧ ¬ pd o) ∧ C P T' f args h K
theorem CallX.mk {P : Program} {T : Nat → Prop} {h0 : Heap} {pd : Nat → Prop} {f : FuncId} {args : List AV} {h : Heap} {K : AV → Heap → Prop} (T' : Nat → Prop) (hT : ∀ o, T' o → (T o ∨ h0 o = none) ∧ ¬ pd o) (hc : C P T' f args h K) :
    CallX P T h0 pd f args h K := by refine .intro ?_; exact ⟨T', hT, hc⟩
theorem CallX.get {P : Program} {T : Nat → Prop} {h0 : Heap} {pd : Nat → Prop} {f : FuncId} {args : List AV} {h : Heap} {K : AV → Heap → Prop} (hc : CallX P T h0 pd f args h K) :
    ∃ T', (∀ o, T' o → (T o ∨ h0 o = none) ∧ ¬ pd o) ∧ C P T' f args h K := hc.out

/-- One more that is deferred. -/
def insD : List AV → AV → (List AV → Prop) → Prop
  | [], y, k => k [y]
  | x :: xs, y, k => match x with
    | .dfr f ys => k (y :: .dfr f ys :: xs)
    | x => insD xs y fun zs => k (x :: zs)

theorem insD_ok : ∀ {tm : List AV} {n : Nat} {y : AV} {k : List AV → Prop}, (∀ (i : Nat) (x : AV), tm[i]? = some x → (i < n ∧ ∀ f xs, x ≠ .dfr f xs) ∨ (n ≤ i ∧ ∃ f xs, x = .dfr f xs)) → n ≤ tm.length → insD tm y k →
    k (tm.take n ++ y :: tm.drop n)
  | [], n, y, k, _, hn, h => by
    have : n = 0 := by simpa using hn
    subst this; exact h
  | x :: xs, n, y, k, hp, hn, h => by
    unfold insD at h
    split at h
    · rename_i f ys
      rcases hp 0 _ rfl with ⟨_, h2⟩ | ⟨h1, _⟩
      · exact absurd rfl (h2 f ys)
      · obtain rfl : n = 0 := by omega
        exact h
    · rename_i hne
      cases n with
      | zero =>
        rcases hp 0 _ rfl with ⟨h1, _⟩ | ⟨_, f, ys, e⟩
        · omega
        · exact absurd e (hne f ys)
      | succ n =>
        have := insD_ok (tm := xs) (n := n) (fun i z hz => by
          rcases hp (i + 1) z (by simpa using hz) with ⟨h1, h2⟩ | ⟨h1, h2⟩
          · exact .inl ⟨by omega, h2⟩
          · exact .inr ⟨by omega, h2⟩) (by simpa using hn) h
        simpa using this

theorem RelT.push {N : Nat} {Z : Nat → Prop} {m : Nat → Option Blk} {ml : Nat → Option Nat} {w : World} {tm : List AV} {a : Act} (r : RelT N Z m ml tm a w) {f : Nat} {xs : List AV} {vs : Array Value} (hs : vs.size = xs.length)
    (hv : ∀ (j : Nat) (x : AV) (v : Value), xs[j]? = some x → vs[j]? = some v → VA N Z m ml w x v) {k : List AV → Prop} (h : insD tm (.dfr f xs) k) :
    ∃ tm', k tm' ∧ RelT N Z m ml tm' { a with defers := ⟨.fn (.func f) #[], vs⟩ :: a.defers } w := by
  have hsz := r.size
  have hk := insD_ok (n := a.tmps.size) (fun i x hx => r.pos hx) (by omega) h
  have hlt : (tm.take a.tmps.size).length = a.tmps.size := by simp; omega
  refine ⟨_, hk, ⟨by simp; omega, fun i x v hx hu => ?_, fun i d hd => ?_⟩⟩
  · have hi : i < a.tmps.size := (Array.getElem?_eq_some_iff.1 hu).1
    rw [List.getElem?_append_left (by omega), List.getElem?_take_of_lt hi] at hx
    exact r.get i x v hx hu
  · cases i with
    | zero =>
      simp at hd; subst hd
      refine ⟨f, xs, vs, ?_, rfl, hs, hv⟩
      show (tm.take a.tmps.size ++ .dfr f xs :: tm.drop a.tmps.size)[a.tmps.size + 0]? = _
      rw [List.getElem?_append_right (by omega)]; simp [hlt]
    | succ i =>
      obtain ⟨g, ys, us, h1, h2⟩ := r.dfr i d (by simpa using hd)
      refine ⟨g, ys, us, ?_, h2⟩
      show (tm.take a.tmps.size ++ .dfr f _ :: tm.drop a.tmps.size)[a.tmps.size + (i + 1)]? = _
      rw [List.getElem?_append_right (by omega), hlt, show a.tmps.size + (i + 1) - a.tmps.size = i + 1 by omega, List.getElem?_cons_succ, List.getElem?_drop]
      exact h1

def opA0 (P : Program) (L : LE) (T : Nat → Prop) (h0 : Heap) (gl : Nat → Bool) (pd pds : Nat → Prop) (s : St) (o : Oper) (K : St → Prop) : Prop :=
  match o.op with
  | .alloc e => match L e with
    | none => False
    | some l => newA gl s o.dst e l.size l.zero K
  | .box e x => match L e with
    | none => False
    | some l => cellsK (evA s.tm x) fun cs => newA gl s o.dst e l.size cs K
  | .store t p x => storeA L T h0 pd pds s t (evA s.tm p) (evA s.tm x) fun loc h => putK s.tm o.dst .undef fun tm => K ⟨tm, loc, h⟩
  | .makeSlice t n c => makeA L s t (evA s.tm n) (evA s.tm c) fun q h => putK s.tm o.dst q fun tm => K ⟨tm, s.loc, h⟩
  | .buildSlice t n ps => match o.dst with
    | none => False
    | some d => match gl d with
      | true => buildSlA L s t n ps.toList fun q h => setK s.tm d q fun tm => K ⟨tm, s.loc, h⟩
      | false => buildSlF L s t n ps.toList fun q => setK s.tm d q fun tm => K ⟨tm, s.loc, s.h⟩
  | .call c => match c.callee with
    | .builtin .append => match c.args.toList, c.argTypes.toList with
      | [x, y], [t, t'] => match Nat.beq t t' with
        | true => appA L T h0 pd s t (evA s.tm x) (evA s.tm y) fun q h => putK s.tm o.dst q fun tm => K ⟨tm, s.loc, h⟩
        | false => appZ L s t t' (evA s.tm x) (evA s.tm y) fun q h => putK s.tm o.dst q fun tm => K ⟨tm, s.loc, h⟩
      | _, _ => False
    | .builtin .copy => match c.args.toList, c.argTypes.toList with
      | [x, y], [t, _] => copyA L T h0 pd s t (evA s.tm x) (evA s.tm y) fun q h => putK s.tm o.dst q fun tm => K ⟨tm, s.loc, h⟩
      | _, _ => False
    | .builtin _ => yld L s o.op fun q => putK s.tm o.dst q fun tm => K ⟨tm, s.loc, s.h⟩
    | .value f => match evA s.tm f with
      | .d (.fn fid cap) => argsK s.tm c.args.toList fun args => appD args cap fun args => match AV.cleanAll args with
        | true => CallX P T h0 pd fid args s.h fun r h => putK s.tm o.dst r fun tm => K ⟨tm, s.loc, h⟩
        | false => False
      | _ => False
    | .invoke _ _ => False
  | .defer c => match c.callee with
    | .value f => match evA s.tm f with
      | .d (.fn fid []) => argsK s.tm c.args.toList fun args => match AV.cleanAll args with
        | true => insD s.tm (.dfr fid args) fun tm => putK tm o.dst .undef fun tm => K ⟨tm, s.loc, s.h⟩
        | false => False
      | _ => False
    | _ => False
  | op => yld L s op fun q => putK s.tm o.dst q fun tm => K ⟨tm, s.loc, s.h⟩

/-- **Any operation.** 'gl': the variables that are objects; 'pd', 'pds': objects and slots that are to stay as they are. -/
def opA (P : Program) (L : LE) (T : Nat → Prop) (h0 : Heap) (gl : Nat → Bool) (pd pds : Nat → Prop) (s : St) (o : Oper) (K : St → Prop) : Prop :=
  match s with
  | ⟨tm, loc, hp⟩ =>
    match o.op with
    | .alloc e => match L e with
      | none => False
      | some ⟨lsz, lby, lz, ld, leq⟩ => newA gl ⟨tm, loc, hp⟩ o.dst e lsz lz K
    | .box e x => match L e with
      | none => False
      | some ⟨lsz, lby, lz, ld, leq⟩ => cellsK (evA tm x) fun cs => newA gl ⟨tm, loc, hp⟩ o.dst e lsz cs K
    | .store t p x => storeA L T h0 pd pds ⟨tm, loc, hp⟩ t (evA tm p) (evA tm x) fun loc hp => putK tm o.dst .undef fun tm => K ⟨tm, loc, hp⟩
    | .makeSlice t n c => makeA L ⟨tm, loc, hp⟩ t (evA tm n) (evA tm c) fun q h => putK tm o.dst q fun tm => K ⟨tm, loc, h⟩
    | .buildSlice t n ps => match o.dst with
      | none => False
      | some d => match gl d with
        | true => buildSlA L ⟨tm, loc, hp⟩ t n ps.toList fun q h => setK tm d q fun tm => K ⟨tm, loc, h⟩
        | false => buildSlF L ⟨tm, loc, hp⟩ t n ps.toList fun q => setK tm d q fun tm => K ⟨tm, loc, hp⟩
    | .call c => match c.callee with
      | .builtin .append => match c.args.toList, c.argTypes.toList with
        | [x, y], [t, t'] => match Nat.beq t t' with
          | true => appA L T h0 pd ⟨tm, loc, hp⟩ t (evA tm x) (evA tm y) fun q h => putK tm o.dst q fun tm => K ⟨tm, loc, h⟩
          | false => appZ L ⟨tm, loc, hp⟩ t t' (evA tm x) (evA tm y) fun q h => putK tm o.dst q fun tm => K ⟨tm, loc, h⟩
        | _, _ => False
      | .builtin .copy => match c.args.toList, c.argTypes.toList with
        | [x, y], [t, _] => copyA L T h0 pd ⟨tm, loc, hp⟩ t (evA tm x) (evA tm y) fun q h => putK tm o.dst q fun tm => K ⟨tm, loc, h⟩
        | _, _ => False
      | .builtin _ => yld L ⟨tm, loc, hp⟩ o.op fun q => putK tm o.dst q fun tm => K ⟨tm, loc, hp⟩
      | .value f => match evA tm f with
        | .d (.fn fid cap) => argsK tm c.args.toList fun args => appD args cap fun args => match AV.cleanAll args with
          | true => CallX P T h0 pd fid args hp fun r h => putK tm o.dst r fun tm => K ⟨tm, loc, h⟩
          | false => False
        | _ => False
      | .invoke _ _ => False
    | .defer c => match c.callee with
      | .value f => match evA tm f with
        | .d (.fn fid []) => argsK tm c.args.toList fun args => match AV.cleanAll args with
          | true => insD tm (.dfr fid args) fun tm => putK tm o.dst .undef fun tm => K ⟨tm, loc, hp⟩
          | false => False
        | _ => False
      | _ => False
    | op => yld L ⟨tm, loc, hp⟩ op fun q => putK tm o.dst q fun tm => K ⟨tm, loc, hp⟩

theorem opA_old (P : Program) (L : LE) (T : Nat → Prop) (h0 : Heap) (gl : Nat → Bool) (pd pds : Nat → Prop) (s : St) (o : Oper) (K : St → Prop) (hx_ : opA P L T h0 gl pd pds s o K) : opA0 P L T h0 gl pd pds s o K := by
  have e : (opA P L T h0 gl pd pds s o K) = (opA0 P L T h0 gl pd pds s o K) := by cases s; kernel_rfl
  exact e ▸ hx_
theorem opA_new (P : Program) (L : LE) (T : Nat → Prop) (h0 : Heap) (gl : Nat → Bool) (pd pds : Nat → Prop) (s : St) (o : Oper) (K : St → Prop) (hx_ : opA0 P L T h0 gl pd pds s o K) : opA P L T h0 gl pd pds s o K := by
  have e : (opA0 P L T h0 gl pd pds s o K) = (opA P L T h0 gl pd pds s o K) := by cases s; kernel_rfl
  exact e ▸ hx_

end Go.Proofs.Rv
