/- RvOpB: stores, makes, copies. -/
import Derived.Test.YtjnhijpophmmgaaRvOpA
import Derived.KernelRfl
import Derived.Laws.IdiomCopy
set_option linter.unusedVariables false
set_option linter.unusedSimpArgs false
namespace Go.Proofs.Rv
open Go

/-- What a store asks of an object. -/
structure StOK (T : Nat → Prop) (h0 : Heap) (pd : Nat → Prop) (o : Nat) (ro : Bool) : Prop where
  ro : ro = false
  may : T o ∨ h0 o = none
  pd : ¬ pd o

def storeA0 (L : LE) (T : Nat → Prop) (h0 : Heap) (pd pds : Nat → Prop) (s : St) (t : Nat) (p x : AV) (K : List (Nat × List FV) → Heap → Prop) : Prop :=
  match L t with
  | none => False
  | some l => cellsK x fun vs => match Nat.beq vs.length l.size with
    | false => False
    | true => match p with
      | .lp u off => match lkL s.loc u with
        | none => False
        | some cs => Rq (¬ pds u) (setRK cs off vs fun cs' => setLocK s.loc u cs' fun loc => K loc s.h)
      | .d (.ptr o off) => ObjK s.h o fun ob => match ob with
        | ⟨cs, ty, es, ro, ar⟩ => Rq (StOK T h0 pd o ro) (match ar with
          | false => setRK cs off vs fun cs' => K s.loc (s.h.upd o ⟨cs', ty, es, ro, ar⟩)
          | true => Rq (off + vs.length ≤ cs.length) (Nm (over cs off vs) fun cs' => K s.loc (s.h.upd o ⟨cs', ty, es, ro, ar⟩)))
      | _ => False

def storeA (L : LE) (T : Nat → Prop) (h0 : Heap) (pd pds : Nat → Prop) (s : St) (t : Nat) (p x : AV) (K : List (Nat × List FV) → Heap → Prop) : Prop :=
  match s with
  | ⟨tm, loc, hp⟩ =>
    match L t with
    | none => False
    | some ⟨lsz, lby, lz, ld, leq⟩ => cellsK x fun vs => match Nat.beq vs.length lsz with
      | false => False
      | true => match p with
        | .lp u off => match lkL loc u with
          | none => False
          | some cs => Rq (¬ pds u) (setRK cs off vs fun cs' => setLocK loc u cs' fun loc => K loc hp)
        | .d (.ptr o off) => ObjK hp o fun ob => match ob with
          | ⟨cs, ty, es, ro, ar⟩ => Rq (StOK T h0 pd o ro) (match ar with
            | false => setRK cs off vs fun cs' => K loc (hp.upd o ⟨cs', ty, es, ro, ar⟩)
            | true => Rq (off + vs.length ≤ cs.length) (Nm (over cs off vs) fun cs' => K loc (hp.upd o ⟨cs', ty, es, ro, ar⟩)))
        | _ => False

theorem storeA_old (L : LE) (T : Nat → Prop) (h0 : Heap) (pd pds : Nat → Prop) (s : St) (t : Nat) (p x : AV) (K : List (Nat × List FV) → Heap → Prop) (hx_ : storeA L T h0 pd pds s t p x K) : storeA0 L T h0 pd pds s t p x K := by
  have e : (storeA L T h0 pd pds s t p x K) = (storeA0 L T h0 pd pds s t p x K) := by cases s; kernel_rfl
  exact e ▸ hx_
theorem storeA_new (L : LE) (T : Nat → Prop) (h0 : Heap) (pd pds : Nat → Prop) (s : St) (t : Nat) (p x : AV) (K : List (Nat × List FV) → Heap → Prop) (hx_ : storeA0 L T h0 pd pds s t p x K) : storeA L T h0 pd pds s t p x K := by
  have e : (storeA0 L T h0 pd pds s t p x K) = (storeA L T h0 pd pds s t p x K) := by cases s; kernel_rfl
  exact e ▸ hx_

/-- 'n' zeros of a type. -/
def zeros (z : List FV) : Nat → List FV
  | 0 => []
  | n + 1 => z ++ zeros z n

def makeA0 (L : LE) (s : St) (t : Nat) (n c : AV) (K : AV → Heap → Prop) : Prop :=
  match L t with
  | none => False
  | some l => match l.d with
    | .slc e => match L e with
      | none => False
      | some le => asI n fun _ n => asI c fun _ c => Rq (0 ≤ n ∧ n = c ∧ n * le.bytes ≤ 140737488355328 ∧ n ≤ 9223372036854775807)
          (NewK s.h fun o => Nm (zeros le.zero n.toNat) fun cells => K (.d (.ref o 0 n.toNat)) (s.h.upd o ⟨cells, e, le.size, false, true⟩))
    | _ => False

def makeA (L : LE) (s : St) (t : Nat) (n c : AV) (K : AV → Heap → Prop) : Prop :=
  match s with
  | ⟨tm, loc, hp⟩ =>
    match L t with
    | none => False
    | some ⟨lsz, lby, lz, ld, leq⟩ => match ld with
      | .slc e => match L e with
        | none => False
        | some ⟨esz, eby, ez, ed, eeq⟩ => asI n fun _ n => asI c fun _ c => Rq (0 ≤ n ∧ n = c ∧ n * eby ≤ 140737488355328 ∧ n ≤ 9223372036854775807)
            (NewK hp fun o => Nm (zeros ez n.toNat) fun cells => K (.d (.ref o 0 n.toNat)) (hp.upd o ⟨cells, e, esz, false, true⟩))
      | _ => False

theorem makeA_old (L : LE) (s : St) (t : Nat) (n c : AV) (K : AV → Heap → Prop) (hx_ : makeA L s t n c K) : makeA0 L s t n c K := by
  have e : (makeA L s t n c K) = (makeA0 L s t n c K) := by cases s; kernel_rfl
  exact e ▸ hx_
theorem makeA_new (L : LE) (s : St) (t : Nat) (n c : AV) (K : AV → Heap → Prop) (hx_ : makeA0 L s t n c K) : makeA L s t n c K := by
  have e : (makeA0 L s t n c K) = (makeA L s t n c K) := by cases s; kernel_rfl
  exact e ▸ hx_

def fillSlK (tm : List AV) (size : Nat) : List (Nat × Operand) → List FV → (List FV → Prop) → Prop
  | [], cs, k => k cs
  | (i, x) :: ps, cs, k => cellsK (evA tm x) fun vs => match Nat.beq vs.length size with
    | true => setRK cs (i * size) vs fun cs => fillSlK tm size ps cs k
    | false => False

/-- 'n' zeros of a type, written out. -/
def zerosK (z : List FV) : Nat → List FV → (List FV → Prop) → Prop
  | 0, acc, k => k acc
  | n + 1, acc, k => zerosK z n (z ++ acc) k

def appendK : List FV → List FV → (List FV → Prop) → Prop
  | [], ys, k => k ys
  | x :: xs, ys, k => appendK xs ys fun zs => k (x :: zs)

def zerosL (z : List FV) : Nat → (List FV → Prop) → Prop
  | 0, k => k []
  | n + 1, k => zerosL z n fun ys => appendK z ys k

theorem appendK_ok : ∀ {xs ys : List FV} {k : List FV → Prop}, appendK xs ys k → k (xs ++ ys)
  | [], _, _, h => h
  | x :: xs, ys, k, h => appendK_ok (xs := xs) (ys := ys) (k := fun zs => k (x :: zs)) h

theorem zerosL_ok {z : List FV} : ∀ {n : Nat} {k : List FV → Prop}, zerosL z n k → k (zeros z n)
  | 0, _, h => h
  | n + 1, k, h => appendK_ok (zerosL_ok (n := n) (k := fun ys => appendK z ys k) h)

def buildSlG0 (L : LE) (s : St) (t n : Nat) (ps : List (Nat × Operand)) (G : Nat → Nat → List FV → Prop) : Prop :=
  match L t with
  | none => False
  | some l => match l.d with
    | .slc e => match L e with
      | none => False
      | some le => match Nat.ble (n * le.size) 16777216, Nat.beq le.size 0 with
        | true, false => zerosL le.zero n fun cs => fillSlK s.tm le.size ps cs fun cells => G e le.size cells
        | _, _ => False
    | _ => False
def buildSlG (L : LE) (s : St) (t n : Nat) (ps : List (Nat × Operand)) (G : Nat → Nat → List FV → Prop) : Prop :=
  match L t with
  | none => False
  | some ⟨lsz, lby, lz, ld, leq⟩ => match ld with
    | .slc e => match L e with
      | none => False
      | some ⟨esz, eby, ez, ed, eeq⟩ => match Nat.ble (n * esz) 16777216, Nat.beq esz 0 with
        | true, false => zerosL ez n fun cs => fillSlK s.tm esz ps cs fun cells => G e esz cells
        | _, _ => False
    | _ => False
theorem buildSlG_old (L : LE) (s : St) (t n : Nat) (ps : List (Nat × Operand)) (G : Nat → Nat → List FV → Prop) (hx_ : buildSlG L s t n ps G) : buildSlG0 L s t n ps G := by
  have e : (buildSlG L s t n ps G) = (buildSlG0 L s t n ps G) := by kernel_rfl
  exact e ▸ hx_

def buildSlA0 (L : LE) (s : St) (t n : Nat) (ps : List (Nat × Operand)) (K : AV → Heap → Prop) : Prop :=
  buildSlG L s t n ps fun e es cells => NewK s.h fun o => K (.d (.ref o 0 n)) (s.h.upd o ⟨cells, e, es, false, true⟩)

/-- A literal: an object of its own. -/
def buildSlA (L : LE) (s : St) (t n : Nat) (ps : List (Nat × Operand)) (K : AV → Heap → Prop) : Prop :=
  match s with
  | ⟨tm, loc, hp⟩ =>
    buildSlG L ⟨tm, loc, hp⟩ t n ps fun e es cells => NewK hp fun o => K (.d (.ref o 0 n)) (hp.upd o ⟨cells, e, es, false, true⟩)

theorem buildSlA_old (L : LE) (s : St) (t n : Nat) (ps : List (Nat × Operand)) (K : AV → Heap → Prop) (hx_ : buildSlA L s t n ps K) : buildSlA0 L s t n ps K := by
  have e : (buildSlA L s t n ps K) = (buildSlA0 L s t n ps K) := by cases s; kernel_rfl
  exact e ▸ hx_
theorem buildSlA_new (L : LE) (s : St) (t n : Nat) (ps : List (Nat × Operand)) (K : AV → Heap → Prop) (hx_ : buildSlA0 L s t n ps K) : buildSlA L s t n ps K := by
  have e : (buildSlA0 L s t n ps K) = (buildSlA L s t n ps K) := by cases s; kernel_rfl
  exact e ▸ hx_

/-- A literal that is frozen. -/
def buildSlF (L : LE) (s : St) (t n : Nat) (ps : List (Nat × Operand)) (K : AV → Prop) : Prop :=
  buildSlG L s t n ps fun _ _ cells => K (.d (.lst n cells))

theorem zerosL_mono {z : List FV} {k k' : List FV → Prop} (hk : ∀ xs, k xs → k' xs) : ∀ {n : Nat}, zerosL z n k → zerosL z n k' := by
  have app : ∀ {xs ys : List FV} {k k' : List FV → Prop}, (∀ xs, k xs → k' xs) → appendK xs ys k → appendK xs ys k' := by
    intro xs
    induction xs with
    | nil => intro ys k k' hk h; exact hk _ h
    | cons x xs ih => intro ys k k' hk h; exact ih (fun zs hz => hk _ hz) h
  intro n
  induction n generalizing k k' with
  | zero => intro h; exact hk _ h
  | succ n ih => intro h; exact ih (fun ys hy => app hk hy) h
theorem fillSlK_mono {tm : List AV} {size : Nat} {k k' : List FV → Prop} (hk : ∀ xs, k xs → k' xs) : ∀ {ps : List (Nat × Operand)} {cs : List FV}, fillSlK tm size ps cs k → fillSlK tm size ps cs k'
  | [], cs, h => hk _ h
  | (i, x) :: ps, cs, h => by
    have ov : ∀ {vs cs : List FV} {k k' : List FV → Prop}, (∀ xs, k xs → k' xs) → ovK cs vs k → ovK cs vs k' := by
      intro vs
      induction vs with
      | nil => intro cs k k' hk h; cases cs <;> exact hk _ h
      | cons v vs ih =>
        intro cs k k' hk h
        cases cs with
        | nil => exact h
        | cons c cs => exact ih (fun ys hy => hk _ hy) h
    have st : ∀ {off : Nat} {cs vs : List FV} {k k' : List FV → Prop}, (∀ xs, k xs → k' xs) → setRK cs off vs k → setRK cs off vs k' := by
      intro off
      induction off with
      | zero => intro cs vs k k' hk h; cases cs <;> exact ov hk h
      | succ off ih =>
        intro cs vs k k' hk h
        cases cs with
        | nil => exact h
        | cons c cs => exact ih (fun ys hy => hk _ hy) h
    simp only [fillSlK] at h ⊢
    have cl : ∀ {x : AV} {k k' : List FV → Prop}, (∀ xs, k xs → k' xs) → cellsK x k → cellsK x k' := by
      intro x k k' hk h
      unfold cellsK at h ⊢
      split at h <;> first | exact hk _ h | exact h
    refine cl (fun vs hv => ?_) h
    split at hv
    · exact st (fun cs hc => fillSlK_mono hk hc) hv
    · exact hv
theorem buildSlG_mono {L : LE} {s : St} {t n : Nat} {ps : List (Nat × Operand)} {G G' : Nat → Nat → List FV → Prop} (hG : ∀ e es cs, G e es cs → G' e es cs) (h : buildSlG L s t n ps G) : buildSlG L s t n ps G' := by
  unfold buildSlG at h ⊢
  split at h
  · exact h
  · split at h
    · split at h
      · exact h
      · split at h
        · exact zerosL_mono (fun cs hc => fillSlK_mono (fun xs hx => hG _ _ _ hx) hc) h
        · exact h
    · exact h

def copyA0 (L : LE) (T : Nat → Prop) (h0 : Heap) (pd : Nat → Prop) (s : St) (t : Nat) (x y : AV) (K : AV → Heap → Prop) : Prop :=
  match L t with
  | none => False
  | some l => match l.d with
    | .slc e => match L e with
      | none => False
      | some le => match Nat.beq le.size 1 with
        | false => False
        | true => srcK s 1 y fun mm news => match x with
          | .d (.ref o off n) => ObjK s.h o fun ob => match ob with
            | ⟨cs, ty, es, ro, ar⟩ => Rq (StOK T h0 pd o ro ∧ ar = true ∧ es = 1 ∧ off + n ≤ cs.length)
                (Nm (over cs off (news.take n)) fun cs' => K (.d (.int .i64 ((Nat.min mm n : Nat) : Int))) (s.h.upd o ⟨cs', ty, es, ro, ar⟩))
          | _ => False
    | _ => False

/-- copy of bytes (elements of one cell). -/
def copyA (L : LE) (T : Nat → Prop) (h0 : Heap) (pd : Nat → Prop) (s : St) (t : Nat) (x y : AV) (K : AV → Heap → Prop) : Prop :=
  match s with
  | ⟨tm, loc, hp⟩ =>
    match L t with
    | none => False
    | some ⟨lsz, lby, lz, ld, leq⟩ => match ld with
      | .slc e => match L e with
        | none => False
        | some ⟨esz, eby, ez, ed, eeq⟩ => match Nat.beq esz 1 with
          | false => False
          | true => srcK ⟨tm, loc, hp⟩ 1 y fun mm news => match x with
            | .d (.ref o off n) => ObjK hp o fun ob => match ob with
              | ⟨cs, ty, es, ro, ar⟩ => Rq (StOK T h0 pd o ro ∧ ar = true ∧ es = 1 ∧ off + n ≤ cs.length)
                  (Nm (over cs off (news.take n)) fun cs' => K (.d (.int .i64 ((Nat.min mm n : Nat) : Int))) (hp.upd o ⟨cs', ty, es, ro, ar⟩))
            | _ => False
      | _ => False

theorem copyA_old (L : LE) (T : Nat → Prop) (h0 : Heap) (pd : Nat → Prop) (s : St) (t : Nat) (x y : AV) (K : AV → Heap → Prop) (hx_ : copyA L T h0 pd s t x y K) : copyA0 L T h0 pd s t x y K := by
  have e : (copyA L T h0 pd s t x y K) = (copyA0 L T h0 pd s t x y K) := by cases s; kernel_rfl
  exact e ▸ hx_
theorem copyA_new (L : LE) (T : Nat → Prop) (h0 : Heap) (pd : Nat → Prop) (s : St) (t : Nat) (x y : AV) (K : AV → Heap → Prop) (hx_ : copyA0 L T h0 pd s t x y K) : copyA L T h0 pd s t x y K := by
  have e : (copyA0 L T h0 pd s t x y K) = (copyA L T h0 pd s t x y K) := by cases s; kernel_rfl
  exact e ▸ hx_

section
variable {P : Program} {B0 N : Nat} {Z : Nat → Prop} {m : Nat → Option Blk} {ml : Nat → Option Nat} {w w' : World} {s : St} {a : Act} {T : Nat → Prop} {h0 : Heap} {pd pds : Nat → Prop}

theorem storeA_ok {L : LE} (hL : LayOK P L) (r : RR B0 N Z m ml s a w) {t : Nat} {p x : AV} {vp vx : Value} {K : List (Nat × List FV) → Heap → Prop} (hp : VA N Z m ml w p vp) (hx : VA N Z m ml w x vx)
    (h : storeA L T h0 pd pds s t p x K) :
    ∃ loc' h' w', K loc' h' ∧ (Instr.storeAt t vp vx).run P w = .ok () w' ∧ RR B0 N Z m ml { s with loc := loc', h := h' } a w' ∧ Eff T h0 pd pds N Z m ml w N Z m w' := by
  replace h := storeA_old _ _ _ _ _ _ _ _ _ _ h
  unfold storeA0 at h
  split at h
  · exact h.elim
  · rename_i l hl
    obtain ⟨vs, hk, hrow⟩ := cellsK_ok hx h
    clear h
    split at hk
    · exact hk.elim
    · rename_i hlen
      have hlen : vs.length = l.size := by simpa using hlen
      split at hk
      · rename_i u off
        split at hk
        · exact hk.elim
        · rename_i cs hcs
          obtain ⟨hpd, h⟩ := hk.get
          obtain ⟨h1, h2⟩ := setRK_ok h
          obtain ⟨loc', h3, h4⟩ := setLocK_ok h2
          cases hp; rename_i ap hap
          obtain ⟨b, arr, TT, e1, e2, e3, e4⟩ := r.L.sl u cs hcs
          obtain rfl := hap b e1
          have hfit : off + vs.length ≤ arr.size := by rw [e3]; exact h1
          have hrun := storeVar_run hL hl e2 hrow hlen hfit
          have hrow' : Row N Z m w vs vx.cells.toList.toArray := by simpa using hrow
          have hst := row_store e4 (by rw [e3]; exact Nat.le_refl _) hrow' h1
          obtain ⟨r', hstp⟩ := r.setSlot hcs e1 e2 (cells := over cs off vs) (news := (arr.toList.take off ++ vx.cells.toList ++ arr.toList.drop (off + vx.cells.toList.length)).toArray) (loc' := loc')
            (by rw [length_over h1]; have := hrow.1; simp; omega) hst h4
          exact ⟨_, _, _, h3, by simp [Instr.storeAt, Instr.sureAddr, hrun], r', fun _ => False, fun c => c = b, hstp _ _ rfl, fun _ h => h.elim, fun c hc => ⟨u, by rw [hc]; exact e1, hpd⟩⟩
      · rename_i o off
        obtain ⟨ob, ho, h⟩ := hk.get
        obtain ⟨cs, ty, es, ro, ar⟩ := ob
        simp only at h
        obtain ⟨hok, h⟩ := h.get
        cases hp; rename_i hp; cases hp; rename_i ap hoN hap
        obtain ⟨b, arr, e1, _, _, e2, e3, e4, e5, _⟩ := r.H.obj o _ ho
        obtain rfl := hap b e1
        have key : off + vs.length ≤ cs.length ∧ K s.loc (s.h.upd o ⟨over cs off vs, ty, es, ro, ar⟩) := by
          split at h
          · exact setRK_ok h
          · exact ⟨h.get.1, h.get.2.get⟩
        obtain ⟨h1, h2⟩ := key
        have e4 : cs.length ≤ b.sz := e4
        have e2 : w.heap[b.b]? = some (.cells arr ty (0, 0)) := e2
        have e5 : ∀ (i : Nat) (x : FV), cs[i]? = some x → ∃ v, arr[i]? = some v ∧ VF N Z m w x v := e5
        have hfit : off + vs.length ≤ arr.size := by omega
        have hrun := storeVar_run hL hl e2 hrow hlen hfit
        have hrow' : Row N Z m w vs vx.cells.toList.toArray := by simpa using hrow
        have hst := row_store e5 (by omega) hrow' h1
        obtain ⟨r', hstp⟩ := r.setObj ho hok.ro e1 e2 (cells := over cs off vs) (news := (arr.toList.take off ++ vx.cells.toList ++ arr.toList.drop (off + vx.cells.toList.length)).toArray)
          (by have := hrow.1; simp; omega) (by rw [length_over h1]; have := hrow.1; simp; omega) hst
        refine ⟨_, _, _, h2, by simp [Instr.storeAt, Instr.sureAddr, hrun], r', fun q => q = o, fun _ => False, hstp _ _ rfl, fun q hq => ?_, fun _ h => h.elim⟩
        rw [hq]; exact ⟨hok.may, hok.pd⟩
      · exact hk.elim

theorem length_zeros (z : List FV) : ∀ n, (zeros z n).length = n * z.length
  | 0 => by simp [zeros]
  | n + 1 => by simp [zeros, length_zeros z n, Nat.add_mul, Nat.add_comm]

theorem zeros_get (z : List FV) : ∀ (n i : Nat) (x : FV), (zeros z n)[i]? = some x → z[i % z.length]? = some x
  | 0, i, x, h => by simp [zeros] at h
  | n + 1, i, x, h => by
    have h : (z ++ zeros z n)[i]? = some x := h
    rw [List.getElem?_append] at h
    split at h
    · rename_i hlt; rw [Nat.mod_eq_of_lt hlt]; exact h
    · have := zeros_get z n _ x h
      rwa [show (i - z.length) % z.length = i % z.length from by
        rw [← Nat.add_mod_right (i - z.length) z.length]; congr 1; omega] at this

/-- The model's zeros are ours. -/
theorem zeros_row {L : LE} (hL : LayOK P L) {e : TypeId} {le : Lay} (hle : L e = some le) (n : Nat) {z : Value} (hz : z.cells = (le.zero.map FV.val0).toArray) :
    Row N Z m w (zeros le.zero n) ((Array.range (n * le.size)).map (z.cells[· % z.cells.size]!)) := by
  obtain ⟨z1, z2⟩ := hL.zero e le hle
  refine ⟨by simp [length_zeros, z2], fun i x v hx hv => ?_⟩
  have hi : i < n * le.size := by
    have := (List.getElem?_eq_some_iff.1 hx).1
    rwa [length_zeros, z2] at this
  have h1 := zeros_get le.zero n i x hx
  have hpos : 0 < le.size := by
    rcases Nat.eq_zero_or_pos le.size with e | e
    · rw [e] at hi; omega
    · exact e
  have hmod : i % le.zero.length < le.zero.length := Nat.mod_lt _ (by omega)
  simp only [Array.getElem?_map, Array.getElem?_range, hi, if_true, Option.map_some, Option.some.injEq] at hv
  have hsz : z.cells.size = le.zero.length := by rw [hz]; simp
  rw [hsz] at hv
  have hc : z.cells[i % le.zero.length]! = x.val0 := by
    have h2 : z.cells[i % le.zero.length]? = some x.val0 := by rw [hz]; simp [h1]
    rw [getElem!_def, h2]
  rw [← hv, hc]
  exact VF.of_plain (by rw [List.all_eq_true] at z1; exact z1 x (List.mem_of_getElem? h1))

theorem row_imp {xs : List FV} {arr : Array Value} (hr : Row N Z m w xs arr) : xs.length ≤ arr.size ∧ ∀ (i : Nat) (x : FV), xs[i]? = some x → ∃ v, arr[i]? = some v ∧ VF N Z m w x v :=
  ⟨by rw [hr.1]; exact Nat.le_refl _, fun i x hx => by
    have hi : i < arr.size := by rw [hr.1]; exact (List.getElem?_eq_some_iff.1 hx).1
    exact ⟨arr[i], Array.getElem?_eq_getElem hi, hr.2 i x _ hx (Array.getElem?_eq_getElem hi)⟩⟩

theorem makeA_ok {L : LE} (hL : LayOK P L) (r : RR B0 N Z m ml s a w) {t : Nat} {n c : AV} {vn vc : Value} {K : AV → Heap → Prop} (hn : VA N Z m ml w n vn) (hc : VA N Z m ml w c vc) (h : makeA L s t n c K) :
    ∃ q v h' N' m' w', K q h' ∧ (Instr.makeSlice t vn vc).run P w = .ok v w' ∧ VA N' Z m' ml w' q v ∧ RR B0 N' Z m' ml { s with h := h' } a w' ∧ Eff T h0 pd pds N Z m ml w N' Z m' w' := by
  replace h := makeA_old _ _ _ _ _ _ h
  unfold makeA0 at h
  split at h
  · exact h.elim
  · rename_i l hl
    have hu := hL.desc t l hl
    split at h
    · rename_i e hd
      rw [hd] at hu
      have hu : P.underlying t = some (.slice e) := hu
      split at h
      · exact h.elim
      · rename_i le hle
        obtain ⟨i, z, i1, i2, i3, i4, i5⟩ := hL.info e le hle
        obtain ⟨ka, n, rfl, hA⟩ := asI_ok hn h
        clear h
        obtain ⟨kb, c, rfl, h⟩ := asI_ok hc hA
        clear hA
        obtain ⟨⟨g0, g1, g2, g3⟩, hh⟩ := h.get
        clear h
        subst g1
        have hrun := run_make (P := P) w t e i z hu i1 i4 ka kb n n g0 (Int.le_refl _) (by rw [i3, Int.mul_comm]; omega) g3
        have hr := zeros_row (N := N) (Z := Z) (m := m) (w := w) hL hle n.toNat i5
        rw [i2] at hrun
        have e1 : madeCells z.cells (n.toNat * le.size) = (Array.range (n.toNat * le.size)).map (z.cells[· % z.cells.size]!) := rfl
        rw [e1] at hrun
        obtain ⟨hN, m', k1, k2, k3⟩ := r.newObj (ty := e) (es := le.size) (ar := true) (row_imp hr) (Grow.alloc w _) (heap_alloc_new w _)
        have k := (hh.get N hN).get
        have hsz : ((Array.range (n.toNat * le.size)).map (z.cells[· % z.cells.size]!)).size = n.toNat * le.size := by simp
        refine ⟨_, _, _, N + 1, m', _, k, hrun, .d (.ref _ _ _ _ _ (Nat.lt_succ_self N) (Nat.le_refl _) fun b hb => ?_), k2, fun _ => False, fun _ => False, k3 _ _, fun _ h => h.elim, fun _ h => h.elim⟩
        rw [k1] at hb; cases hb
        refine ⟨fun _ => rfl, by simp, ?_⟩
        simp only [maxLen]; omega
    · exact h.elim

theorem fillSl_ok (r : RelT N Z m ml s.tm a w) (size : Nat) :
    ∀ (ps : List (Nat × Operand)) (cs : List FV) (vs : Array Value) (k : List FV → Prop), Row N Z m w cs vs → fillSlK s.tm size ps cs k →
      ∃ cs' vs', k cs' ∧ Row N Z m w cs' vs' ∧ Instr.fill (fun i => some (i * size, size)) vs (ps.map fun (i, x) => (i, a.eval x)) = some vs' ∧ cs'.length = cs.length
  | [], cs, vs, k, hr, h => ⟨cs, vs, h, hr, rfl, rfl⟩
  | (i, x) :: ps, cs, vs, k, hr, h => by
    simp only [fillSlK] at h
    obtain ⟨ys, hk, hy⟩ := cellsK_ok (r.ev x) h
    clear h
    split at hk
    · rename_i hlen
      have hlen' : ys.length = size := by simpa using hlen
      obtain ⟨h1, h⟩ := setRK_ok hk
      obtain ⟨cs', vs', g1, g2, g3, g4⟩ := fillSl_ok r size ps _ _ k (hr.over hy h1) h
      refine ⟨cs', vs', g1, g2, ?_, by rw [g4, length_over h1]⟩
      simp only [List.map_cons, Instr.fill]
      have e1 : (a.eval x).cells.size = size := by rw [hy.1, hlen']
      have e2 : ¬ (i * size + (a.eval x).cells.size > vs.size) := by rw [hy.1, hr.1]; omega
      simp only [ne_eq, e1, not_true_eq_false, decide_false, Bool.false_or]
      rw [e1] at e2
      simp only [decide_eq_true_eq, e2, if_false]
      exact g3
    · exact hk.elim

theorem buildSlA_ok {L : LE} (hL : LayOK P L) (r : RR B0 N Z m ml s a w) {t n : Nat} {ps : Array (Nat × Operand)} {K : AV → Heap → Prop} (h : buildSlA L s t n ps.toList K) :
    ∃ q v h' N' m' w', K q h' ∧ (Instr.buildSlice t n (ps.map fun (i, x) => (i, a.eval x))).run P w = .ok v w' ∧ VA N' Z m' ml w' q v ∧ RR B0 N' Z m' ml { s with h := h' } a w' ∧ Eff T h0 pd pds N Z m ml w N' Z m' w' := by
  replace h := buildSlA_old _ _ _ _ _ _ h
  unfold buildSlA0 at h
  replace h := buildSlG_old _ _ _ _ _ _ h
  unfold buildSlG0 at h
  split at h
  · exact h.elim
  · rename_i l hl
    have hu := hL.desc t l hl
    split at h
    · rename_i e hd
      rw [hd] at hu
      have hu : P.underlying t = some (.slice e) := hu
      split at h
      · exact h.elim
      · rename_i le hle
        obtain ⟨i, z, i1, i2, i3, i4, i5⟩ := hL.info e le hle
        obtain ⟨z1, z2⟩ := hL.zero e le hle
        split at h
        · rename_i hbl hs0
          have hbl : n * le.size ≤ 16777216 := Nat.le_of_ble_eq_true hbl
          have hr := zeros_row (N := N) (Z := Z) (m := m) (w := w) hL hle n i5
          obtain ⟨cs, vs, g1, g2, g3, g4⟩ := fillSl_ok r.T le.size ps.toList _ _ _ hr (zerosL_ok h)
          obtain ⟨hN, m', k1, k2, k3⟩ := r.newObj (ty := e) (es := le.size) (ar := true) (row_imp g2) (Grow.alloc w _) (heap_alloc_new w _)
          have k := g1.get N hN
          have hpl : (ps.map fun (i, x) => (i, a.eval x)).toList = ps.toList.map fun (i, x) => (i, a.eval x) := by simp
          have hsz : vs.size = n * le.size := by rw [g2.1, g4, length_zeros, z2]
          have hmax : ¬ (n * le.size > 2 ^ 24) := by simp only [Nat.reducePow]; omega
          have hz : (zeroValue e).run P w = .ok z w := by simp [zeroValue, typeInfo, i1, i4]
          have hs := run_size (w := w) hL hle
          refine ⟨_, .slice (some ⟨w.heap.size, 0, none⟩) n n, _, N + 1, m', _, k, ?_, .d (.ref _ _ _ _ _ (Nat.lt_succ_self N) (Nat.le_refl _) fun b hb => ?_), k2, fun _ => False, fun _ => False, k3 _ _, fun _ h => h.elim, fun _ h => h.elim⟩
          · by_cases h0 : n * le.size = 0
            · have e0 : (Array.range (n * le.size)).map (z.cells[· % z.cells.size]!) = #[] := by rw [h0]; simp
              rw [e0] at g3
              simp only [Instr.buildSlice, Sem.run_bind, run_underlying hu, Result.andThen_ok, hs, hmax, if_false, h0, if_true, Sem.run_pure]
              simp only [Array.range_zero', Array.map_empty, hpl, g3, newRow, Sem.run_bind, run_newObj, Result.andThen_ok, Sem.run_pure]
              rfl
            · simp only [Instr.buildSlice, Sem.run_bind, run_underlying hu, Result.andThen_ok, hs, hmax, if_false, h0, hz, Sem.run_pure, hpl, g3, newRow, run_newObj]
              rfl
          · rw [k1] at hb; cases hb
            have hmx : n ≤ maxLen := by
              rcases Nat.eq_zero_or_pos le.size with e | e
              · rw [e] at hs0; cases hs0
              · have := Nat.le_mul_of_pos_right n e; simp only [maxLen]; omega
            exact ⟨fun _ => rfl, by simp [hsz], hmx⟩
        · exact h.elim
    · exact h.elim

end

end Go.Proofs.Rv
