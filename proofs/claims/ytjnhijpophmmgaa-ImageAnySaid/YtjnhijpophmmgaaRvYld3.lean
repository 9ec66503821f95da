/- RvYld3: cuts of slices, min and max, conversions, literals of structs, closures; and 'yld', all operations that leave the world as it is. -/
import Derived.Test.YtjnhijpophmmgaaRvYld2
import Derived.KernelRfl
set_option linter.unusedVariables false
set_option linter.unusedSimpArgs false
namespace Go.Proofs.Rv
open Go

/-- The bounds of a cut: from 'lo' (0) to 'hi' ('n'), no further than 'mx' where it stands. -/
structure Cut (n : Nat) (lo hi mx : Option Int) (k : Nat → Nat → Prop) : Prop where intro ::
  out : ∃ l h : Nat, lo.getD 0 = (l : Int) ∧ hi.getD n = (h : Int) ∧ l ≤ h ∧ h ≤ n ∧ (∀ x, mx = some x → (h : Int) ≤ x ∧ x ≤ n) ∧ k l h
theorem Cut.mk {n : Nat} {lo hi mx : Option Int} {k : Nat → Nat → Prop} (l h : Nat) (h1 : lo.getD 0 = (l : Int)) (h2 : hi.getD n = (h : Int)) (h3 : l ≤ h) (h4 : h ≤ n) (h5 : ∀ x, mx = some x → (h : Int) ≤ x ∧ x ≤ n) (hk : k l h) :
    Cut n lo hi mx k := by refine .intro ?_; exact ⟨l, h, h1, h2, h3, h4, h5, hk⟩
theorem Cut.get {n : Nat} {lo hi mx : Option Int} {k : Nat → Nat → Prop} (h : Cut n lo hi mx k) :
    ∃ l h : Nat, lo.getD 0 = (l : Int) ∧ hi.getD n = (h : Int) ∧ l ≤ h ∧ h ≤ n ∧ (∀ x, mx = some x → (h : Int) ≤ x ∧ x ≤ n) ∧ k l h := h.out

/-- Cells that are named anew. -/
structure Nm (cs : List FV) (k : List FV → Prop) : Prop where intro ::
  out : ∃ xs, cs = xs ∧ k xs
theorem Nm.mk {cs : List FV} {k : List FV → Prop} (xs : List FV) (h : cs = xs) (hk : k xs) : Nm cs k := by refine .intro ?_; exact ⟨xs, h, hk⟩
theorem Nm.get {cs : List FV} {k : List FV → Prop} (h : Nm cs k) : k cs := by have h := h.out; obtain ⟨_, rfl, h⟩ := h; exact h

def optI (x : Option AV) (k : Option Int → Prop) : Prop :=
  match x with
  | none => k none
  | some x => asI x fun _ n => k (some n)

def sliceA0 (L : LE) (s : St) (t : Nat) (x : AV) (lo hi mx : Option AV) (k : AV → Prop) : Prop :=
  match L t with
  | none => False
  | some l => match l.d with
    | .slc e => match L e with
      | none => False
      | some le => optI lo fun lo => optI hi fun hi => optI mx fun mx => match x with
        | .d (.lst n cs) => match mx, hi with
          | some _, none => False
          | mx, hi => Cut n lo hi mx fun l h => Nm ((cs.drop (l * le.size)).take ((h - l) * le.size)) fun xs => k (.d (.lst (h - l) xs))
        | .d (.ref o off n) => match mx with
          | some _ => False
          | none => ObjK s.h o fun ob => Rq (ob.es = le.size) (Cut n lo hi none fun l h => k (.d (.ref o (off + l * le.size) (h - l))))
        | .d .nils => match mx with
          | some _ => False
          | none => Cut 0 lo hi none fun _ _ => k (.d .nils)
        | _ => False
    | .str => match mx with
      | some _ => False
      | none => optI lo fun lo => optI hi fun hi => match x with
        | .d (.str b) => Cut b.size lo hi none fun l h => k (.d (.str (b.extract l h)))
        | _ => False
    | _ => False

def sliceA (L : LE) (s : St) (t : Nat) (x : AV) (lo hi mx : Option AV) (k : AV → Prop) : Prop :=
  match s with
  | ⟨tm, loc, hp⟩ =>
    match L t with
    | none => False
    | some ⟨lsz, lby, lz, ld, leq⟩ => match ld with
      | .slc e => match L e with
        | none => False
        | some ⟨esz, eby, ez, ed, eeq⟩ => optI lo fun lo => optI hi fun hi => optI mx fun mx => match x with
          | .d (.lst n cs) => match mx, hi with
            | some _, none => False
            | mx, hi => Cut n lo hi mx fun l h => Nm ((cs.drop (l * esz)).take ((h - l) * esz)) fun xs => k (.d (.lst (h - l) xs))
          | .d (.ref o off n) => match mx with
            | some _ => False
            | none => ObjK hp o fun ob => match ob with | ⟨_, _, es, _, _⟩ => Rq (es = esz) (Cut n lo hi none fun l h => k (.d (.ref o (off + l * esz) (h - l))))
          | .d .nils => match mx with
            | some _ => False
            | none => Cut 0 lo hi none fun _ _ => k (.d .nils)
          | _ => False
      | .str => match mx with
        | some _ => False
        | none => optI lo fun lo => optI hi fun hi => match x with
          | .d (.str b) => Cut b.size lo hi none fun l h => k (.d (.str (b.extract l h)))
          | _ => False
      | _ => False

theorem sliceA_old (L : LE) (s : St) (t : Nat) (x : AV) (lo hi mx : Option AV) (k : AV → Prop) (hx_ : sliceA L s t x lo hi mx k) : sliceA0 L s t x lo hi mx k := by
  have e : (sliceA L s t x lo hi mx k) = (sliceA0 L s t x lo hi mx k) := by cases s; kernel_rfl
  exact e ▸ hx_
theorem sliceA_new (L : LE) (s : St) (t : Nat) (x : AV) (lo hi mx : Option AV) (k : AV → Prop) (hx_ : sliceA0 L s t x lo hi mx k) : sliceA L s t x lo hi mx k := by
  have e : (sliceA0 L s t x lo hi mx k) = (sliceA L s t x lo hi mx k) := by cases s; kernel_rfl
  exact e ▸ hx_

section
variable {P : Program} {B0 N : Nat} {Z : Nat → Prop} {m : Nat → Option Blk} {ml : Nat → Option Nat} {w : World} {s : St} {a : Act}

/-- What an optional operand is. -/
def VO (N : Nat) (Z : Nat → Prop) (m : Nat → Option Blk) (ml : Nat → Option Nat) (w : World) (x : Option AV) (v : Option Value) : Prop :=
  match x, v with
  | none, none => True
  | some x, some v => VA N Z m ml w x v
  | _, _ => False

theorem optI_ok {x : Option AV} {v : Option Value} {k : Option Int → Prop} (hx : VO N Z m ml w x v) (h : optI x k) :
    ∃ i, k i ∧ ((i = none ∧ v = none) ∨ ∃ kd n, i = some n ∧ v = some (.int kd n)) := by
  unfold VO at hx
  split at hx
  · exact ⟨none, h, .inl ⟨rfl, rfl⟩⟩
  · obtain ⟨ka, n, rfl, h⟩ := asI_ok hx h
    exact ⟨some n, h, .inr ⟨ka, n, rfl, rfl⟩⟩
  · exact hx.elim

theorem bounds_run {isSlice : Bool} {len cap n l h : Nat} {lo hi mx : Option Int} {vlo vhi vmx : Option Value} (hn : n ≤ cap) (hlen : len = n)
    (h1 : lo.getD 0 = (l : Int)) (h2 : hi.getD n = (h : Int)) (h3 : l ≤ h) (h4 : h ≤ n) (h5 : ∀ x, mx = some x → (h : Int) ≤ x ∧ x ≤ n) (hmh : mx ≠ none → hi ≠ none)
    (e1 : (lo = none ∧ vlo = none) ∨ ∃ kd n, lo = some n ∧ vlo = some (.int kd n)) (e2 : (hi = none ∧ vhi = none) ∨ ∃ kd n, hi = some n ∧ vhi = some (.int kd n))
    (e3 : (mx = none ∧ vmx = none) ∨ ∃ kd n, mx = some n ∧ vmx = some (.int kd n)) :
    ∃ mm : Nat, (h ≤ mm ∧ mm ≤ cap) ∧ (mx = none → mm = cap) ∧ ∀ w' : World, (Instr.sliceBounds isSlice len cap vlo vhi vmx).run P w' = .ok (l, h, mm) w' := by
  subst hlen
  rcases e3 with ⟨rfl, rfl⟩ | ⟨k3, n3, rfl, rfl⟩
  · refine ⟨cap, ⟨by omega, Nat.le_refl _⟩, fun _ => rfl, fun w' => ?_⟩
    rcases e2 with ⟨rfl, rfl⟩ | ⟨k2, n2, rfl, rfl⟩ <;> rcases e1 with ⟨rfl, rfl⟩ | ⟨k1, n1, rfl, rfl⟩ <;> simp at h1 h2 <;> (try subst h1) <;> (try subst h2) <;>
      simp [Instr.sliceBounds, Instr.sliceBound, asIntOf] <;> (repeat (rw [if_pos (by omega)])) <;> (try simp) <;> (try omega)
  · obtain ⟨h6, h7⟩ := h5 n3 rfl
    rcases e2 with ⟨rfl, rfl⟩ | ⟨k2, n2, rfl, rfl⟩
    · exact absurd rfl (hmh (by simp))
    · refine ⟨n3.toNat, ⟨by omega, by omega⟩, by simp, fun w' => ?_⟩
      have h8 : n3 ≤ cap := by omega
      have h9 : (0 : Int) ≤ n3 := by omega
      rcases e1 with ⟨rfl, rfl⟩ | ⟨k1, n1, rfl, rfl⟩ <;> simp at h1 h2 <;> (try subst h1) <;> (try subst h2)
      · simp [Instr.sliceBounds, Instr.sliceBound, asIntOf, h8, h9, h6]; omega
      · simp [Instr.sliceBounds, Instr.sliceBound, asIntOf, h8, h9, h6, h3]

theorem sliceA_ok {L : LE} (hL : LayOK P L) (r : RR B0 N Z m ml s a w) {t : Nat} {x : AV} {v : Value} {lo hi mx : Option AV} {vlo vhi vmx : Option Value} {k : AV → Prop} (hx : VA N Z m ml w x v)
    (hlo : VO N Z m ml w lo vlo) (hhi : VO N Z m ml w hi vhi) (hmx : VO N Z m ml w mx vmx) (h : sliceA L s t x lo hi mx k) :
    ∃ r v', k r ∧ VA N Z m ml w r v' ∧ ∀ w' : World, (Instr.sliceAt t v vlo vhi vmx).run P w' = .ok v' w' := by
  replace h := sliceA_old _ _ _ _ _ _ _ _ h
  unfold sliceA0 at h
  split at h
  · exact h.elim
  · rename_i l hl
    have hu := hL.desc t l hl
    split at h
    · rename_i e hd
      rw [hd] at hu
      split at h
      · exact h.elim
      · rename_i le hle
        have hs : ∀ w' : World, (sizeOf e).run P w' = .ok le.size w' := fun w' => run_size hL hle
        obtain ⟨ilo, hA, e1⟩ := optI_ok hlo h; clear h
        obtain ⟨ihi, hB, e2⟩ := optI_ok hhi hA; clear hA
        obtain ⟨imx, h, e3⟩ := optI_ok hmx hB; clear hB
        split at h
        · rename_i n cs
          split at h
          · exact h.elim
          · rename_i hne
            obtain ⟨l, hh, h1, h2, h3, h4, h5, h⟩ := h.get
            have h := h.get
            cases hx; rename_i hx
            rcases hx.lst_inv with ⟨rfl, rfl, rfl⟩ | ⟨a, cap, u, rfl, hn, hz, hc, hv⟩
            · obtain ⟨mm, ⟨g1, g1'⟩, g2, g3⟩ := bounds_run (P := P) (isSlice := true) (len := 0) (cap := 0) (Nat.le_refl 0) rfl h1 h2 h3 h4 h5 (fun h1 h2 => by cases hq : imx with | none => exact h1 hq | some y => exact hne y hq h2) e1 e2 e3
              obtain rfl : mm = 0 := by omega
              obtain rfl : hh = 0 := by omega
              obtain rfl : l = 0 := by omega
              refine ⟨_, .slice none 0 0, h, .d (by simpa using VF.lst0), fun w' => ?_⟩
              simp [Instr.sliceAt, run_underlying hu, Instr.slice, g3, hs]
            obtain ⟨mm, ⟨g1, _⟩, g2, g3⟩ := bounds_run (P := P) (isSlice := true) (len := n) hn rfl h1 h2 h3 h4 h5 (fun h1 h2 => by cases hq : imx with | none => exact h1 hq | some y => exact hne y hq h2) e1 e2 e3
            refine ⟨_, .slice (if mm = l then some a else some (a.add (l * le.size))) (hh - l) (mm - l), h, ?_, ?_⟩
            · by_cases hml : mm = l
              · have h0 : hh - l = 0 := by omega
                rw [if_pos hml]
                refine .d (.lst _ _ a _ (fun i => u i) (by omega) (fun hne => ?_) (fun i x hx => ?_) (fun i x hx => ?_))
                · simp [h0] at hne
                · simp [h0] at hx
                · simp [h0] at hx
              · rw [if_neg hml]
                have hsub : ∀ (i : Nat) (x : FV), ((cs.drop (l * le.size)).take ((hh - l) * le.size))[i]? = some x → cs[l * le.size + i]? = some x := fun i x hx => by
                  have hi : i < (hh - l) * le.size := by
                    have := (List.getElem?_eq_some_iff.1 hx).1
                    simp only [List.length_take] at this; omega
                  rw [List.getElem?_take_of_lt hi, List.getElem?_drop] at hx
                  exact hx
                refine .d (.lst _ _ _ _ (fun i => u (l * le.size + i)) (by omega) (fun hne => ?_) (fun i x hx => ?_) (fun i x hx => ?_))
                · have : (a.add (l * le.size)).block = a.block := by unfold Addr.add; split <;> rfl
                  rw [this]
                  exact hz (fun e => hne (by simp [e]))
                · rw [add_addr]; exact hc _ x (hsub i x hx)
                · exact hv _ x (hsub i x hx)
            · intro w'
              simp only [Instr.sliceAt, Sem.run_bind, run_underlying hu, Result.andThen_ok, Instr.slice, g3, hs]
              by_cases hml : mm = l <;> simp [hml]
        · rename_i o off n
          split at h
          · exact h.elim
          · obtain ⟨ob, ho, h⟩ := h.get
            obtain ⟨hes, h⟩ := h.get
            obtain ⟨l, hh, h1, h2, h3, h4, h5, h⟩ := h.get
            cases hx; rename_i hx; cases hx; rename_i a cap hoN ha hn
            obtain ⟨mm, ⟨g1, _⟩, g2, g3⟩ := bounds_run (P := P) (isSlice := true) (len := n) hn rfl h1 h2 h3 h4 h5 (fun h => absurd rfl h) e1 e2 e3
            obtain rfl := g2 rfl
            obtain ⟨b, arr, hb, _, hbe, _⟩ := r.H.obj o ob ho
            obtain ⟨a1, a2, a3⟩ := ha b hb
            refine ⟨_, .slice (if mm = l then some a else some (a.add (l * le.size))) (hh - l) (mm - l), h, ?_, ?_⟩
            · have hcap : off + l * le.size + (mm - l) * b.es = b.sz := by
                rw [← a2, hbe, hes, Nat.add_assoc, ← Nat.add_mul]
                congr 2; omega
              by_cases hml : mm = l
              · rw [if_pos hml]
                refine .d (.ref _ _ _ a _ hoN (by omega) fun b' hb' => ?_)
                rw [hb] at hb'; cases hb'
                refine ⟨fun hc => ?_, hcap, by omega⟩
                have : off = 0 ∧ l * le.size = 0 := by omega
                rw [a1 (.inr this.1), this.1, this.2]
              · rw [if_neg hml]
                refine .d (.ref _ _ _ _ _ hoN (by omega) fun b' hb' => ?_)
                rw [hb] at hb'; cases hb'
                exact ⟨fun _ => by rw [a1 (.inl (by omega)), addr_add], hcap, by omega⟩
            · intro w'
              simp only [Instr.sliceAt, Sem.run_bind, run_underlying hu, Result.andThen_ok, Instr.slice, g3, hs]
              by_cases hml : mm = l <;> simp [hml]
        · split at h
          · exact h.elim
          · obtain ⟨l, hh, h1, h2, h3, h4, h5, h⟩ := h.get
            cases hx; rename_i hx; cases hx
            obtain ⟨mm, ⟨g1, _⟩, g2, g3⟩ := bounds_run (P := P) (isSlice := true) (len := 0) (cap := 0) (Nat.le_refl 0) rfl h1 h2 h3 h4 h5 (fun h => absurd rfl h) e1 e2 e3
            obtain rfl := g2 rfl
            obtain rfl : hh = 0 := by omega
            obtain rfl : l = 0 := by omega
            refine ⟨_, _, h, .d .nils, fun w' => ?_⟩
            simp [Instr.sliceAt, run_underlying hu, Instr.slice, g3, hs]
        · exact h.elim
    · rename_i hd
      rw [hd] at hu
      split at h
      · exact h.elim
      · unfold VO at hmx
        split at hmx
        · obtain ⟨ilo, hA, e1⟩ := optI_ok hlo h; clear h
          obtain ⟨ihi, h, e2⟩ := optI_ok hhi hA; clear hA
          split at h
          · rename_i b
            obtain ⟨l, hh, h1, h2, h3, h4, h5, h⟩ := h.get
            cases hx; rename_i hx; cases hx
            obtain ⟨mm, ⟨g1, _⟩, g2, g3⟩ := bounds_run (P := P) (isSlice := false) (len := b.size) (Nat.le_refl _) rfl h1 h2 h3 h4 h5 (fun h => absurd rfl h) e1 e2 (.inl ⟨rfl, rfl⟩)
            refine ⟨_, _, h, .d (.str _), fun w' => ?_⟩
            simp [Instr.sliceAt, run_underlying hu, Instr.slice, g3]
          · exact h.elim
        · contradiction
        · exact hmx.elim
    · exact h.elim

end

def pickA (c x y : AV) (k : AV → Prop) : Prop :=
  match c with
  | .tt => fc x k
  | .ff => fc y k
  | .d (.bool c) => asB x fun p => asB y fun q => k (.d (.bool (bif c then p else q)))
  | _ => False

def nilCheckA (x : AV) (k : AV → Prop) : Prop :=
  match x with
  | .lp t o => k (.lp t o)
  | .d (.ptr o f) => k (.d (.ptr o f))
  | .d (.fptr cs f) => k (.d (.fptr cs f))
  | .d (.fn f c) => k (.d (.fn f c))
  | _ => False

def unA (op : UnOp) (x : AV) (k : AV → Prop) : Prop :=
  match op with
  | .not => match x with
    | .tt => k .ff
    | .ff => k .tt
    | .d (.bool b) => k (.d (.bool (!b)))
    | _ => False
  | .neg => asI x fun ka n => Wr ka (0 - n) k
  | .xor => asI x fun ka n => k (.d (.int ka (bitsI ka .xor (if ka.signed then -1 else ka.max) n)))
  | _ => False

def u8s (bs : List UInt8) : List FV := bs.map fun b => .int .u8 (b.toNat : Int)

/-- Cells that are bytes. -/
structure StrO (cs : List FV) (k : List UInt8 → Prop) : Prop where intro ::
  out : ∃ bs, cs = u8s bs ∧ k bs
theorem StrO.mk {cs : List FV} {k : List UInt8 → Prop} (bs : List UInt8) (h : cs = u8s bs) (hk : k bs) : StrO cs k := by refine .intro ?_; exact ⟨bs, h, hk⟩
theorem StrO.get {cs : List FV} {k : List UInt8 → Prop} (h : StrO cs k) : ∃ bs, cs = u8s bs ∧ k bs := h.out

def convA0 (L : LE) (s : St) (src dst : Nat) (x : AV) (k : AV → Prop) : Prop :=
  match L src, L dst with
  | some ls, some ld => match ls.d, ld.d with
    | .int _, .int kd => asI x fun _ n => Wr kd n k
    | .slc e, .str => match L e with
      | some le => match le.d with
        | .int .u8 => match x with
          | .d .nils => k (.d (.str ByteArray.empty))
          | .d (.lst n cs) => Rq (cs.length = n) (StrO cs fun bs => k (.d (.str ⟨bs.toArray⟩)))
          | .d (.ref o off n) => ObjK s.h o fun ob => SubO ob.cells off n fun xs => StrO xs fun bs => k (.d (.str ⟨bs.toArray⟩))
          | _ => False
        | _ => False
      | none => False
    | .str, .str => match x with
      | .d (.str b) => k (.d (.str b))
      | _ => False
    | _, _ => False
  | _, _ => False

def convA (L : LE) (s : St) (src dst : Nat) (x : AV) (k : AV → Prop) : Prop :=
  match s with
  | ⟨tm, loc, hp⟩ =>
    match L src, L dst with
    | some ls, some ld => match ls.d, ld.d with
      | .int _, .int kd => asI x fun _ n => Wr kd n k
      | .slc e, .str => match L e with
        | some le => match le.d with
          | .int .u8 => match x with
            | .d .nils => k (.d (.str ByteArray.empty))
            | .d (.lst n cs) => Rq (cs.length = n) (StrO cs fun bs => k (.d (.str ⟨bs.toArray⟩)))
            | .d (.ref o off n) => ObjK hp o fun ob => match ob with | ⟨cells, _, _, _, _⟩ => SubO cells off n fun xs => StrO xs fun bs => k (.d (.str ⟨bs.toArray⟩))
            | _ => False
          | _ => False
        | none => False
      | .str, .str => match x with
        | .d (.str b) => k (.d (.str b))
        | _ => False
      | _, _ => False
    | _, _ => False

theorem convA_old (L : LE) (s : St) (src dst : Nat) (x : AV) (k : AV → Prop) (hx_ : convA L s src dst x k) : convA0 L s src dst x k := by
  have e : (convA L s src dst x k) = (convA0 L s src dst x k) := by cases s; kernel_rfl
  exact e ▸ hx_
theorem convA_new (L : LE) (s : St) (src dst : Nat) (x : AV) (k : AV → Prop) (hx_ : convA0 L s src dst x k) : convA L s src dst x k := by
  have e : (convA0 L s src dst x k) = (convA L s src dst x k) := by cases s; kernel_rfl
  exact e ▸ hx_

def extractA (x : AV) (i : Nat) (k : AV → Prop) : Prop :=
  match x with
  | .tup vs => nthK vs i fun v => fc v k
  | _ => False

def mmA (mx : Bool) (x y : AV) (k : AV → Prop) : Prop :=
  asI x fun ka a => asI y fun _ b => match mx with
    | true => k (.d (.int ka (max a b)))
    | false => k (.d (.int ka (min a b)))

def collF : List AV → (List FV → Prop) → Prop
  | [], k => k []
  | .d x :: xs, k => collF xs fun ys => k (x :: ys)
  | _ :: _, _ => False

section
variable {P : Program} {B0 N : Nat} {Z : Nat → Prop} {m : Nat → Option Blk} {ml : Nat → Option Nat} {w : World} {s : St} {a : Act}

theorem pickA_ok {c x y : AV} {vc vx vy : Value} {k : AV → Prop} (hc : VA N Z m ml w c vc) (hx : VA N Z m ml w x vx) (hy : VA N Z m ml w y vy) (h : pickA c x y k) :
    ∃ r v b, k r ∧ VA N Z m ml w r v ∧ vc = .bool b ∧ v = if b then vx else vy := by
  unfold pickA at h
  split at h
  · cases hc; exact ⟨_, _, _, fc_ok h, hx, rfl, rfl⟩
  · cases hc; exact ⟨_, _, _, fc_ok h, hy, rfl, rfl⟩
  · rename_i c
    cases hc; rename_i hc; cases hc
    obtain ⟨p, rfl, h⟩ := asB_ok hx h
    obtain ⟨q, rfl, h⟩ := asB_ok hy h
    exact ⟨_, _, c, h, .d (.bool _), rfl, by cases c <;> rfl⟩
  · exact h.elim

theorem nilCheckA_ok {x : AV} {v : Value} {k : AV → Prop} (hx : VA N Z m ml w x v) (h : nilCheckA x k) :
    ∃ r, k r ∧ VA N Z m ml w r v ∧ ((∃ p, v = .pointer (some p)) ∨ ∃ f us, v = .func (.func f) #[] us) := by
  unfold nilCheckA at h
  split at h
  · exact ⟨_, h, hx, by cases hx; exact .inl ⟨_, rfl⟩⟩
  · exact ⟨_, h, hx, by cases hx; rename_i hx; cases hx; exact .inl ⟨_, rfl⟩⟩
  · exact ⟨_, h, hx, by cases hx; rename_i hx; cases hx; exact .inl ⟨_, rfl⟩⟩
  · exact ⟨_, h, hx, by cases hx; rename_i hx; cases hx; exact .inr ⟨_, _, rfl⟩⟩
  · exact h.elim

theorem unA_ok {op : UnOp} {x : AV} {v : Value} {k : AV → Prop} (hx : VA N Z m ml w x v) (h : unA op x k) :
    ∃ r v', k r ∧ VA N Z m ml w r v' ∧ ∀ w' : World, (Op.unary op v).run P w' = .ok v' w' := by
  unfold unA at h
  split at h
  · split at h
    · cases hx; exact ⟨_, _, h, .ff, fun w' => by simp [Op.unary]⟩
    · cases hx; exact ⟨_, _, h, .tt, fun w' => by simp [Op.unary]⟩
    · cases hx; rename_i hx; cases hx; exact ⟨_, _, h, .d (.bool _), fun w' => by simp [Op.unary]⟩
    · exact h.elim
  · obtain ⟨ka, n, rfl, h⟩ := asI_ok hx h
    exact ⟨_, _, h.get, .d (.int _ _), fun w' => by simp [Op.unary, Op.intArith]⟩
  · obtain ⟨ka, n, rfl, h⟩ := asI_ok hx h
    exact ⟨_, _, h, .d (.int _ _), fun w' => by simp [Op.unary, bitsI_ok]⟩
  · exact h.elim

theorem push_bytes (bs : List UInt8) : ∀ (r : ByteArray), (bs.map fun b => (b.toNat : Int)).foldl (fun r n => r.push (UInt8.ofNat n.toNat)) r = ⟨(r.data.toList ++ bs).toArray⟩ := by
  induction bs with
  | nil => intro r; cases r; simp
  | cons b bs ih =>
    intro r
    simp only [List.map_cons, List.foldl_cons]
    rw [ih]
    simp [ByteArray.push]

theorem bytes_str {e src dst : TypeId} (hs : P.underlying src = some (.slice e)) (he : P.underlying e = some (.int .u8)) (hd : P.underlying dst = some .string) {ad : Addr} {n cap : Nat} {bs : List UInt8} (hn : bs.length = n)
    (hat : At N Z m w ad (u8s bs)) (w' : World) (hw' : bs ≠ [] → w'.heap[ad.block]? = w.heap[ad.block]?) : (convert src dst (.slice (some ad) n cap)).run P w' = .ok (.string ⟨bs.toArray⟩) w' := by
  rw [run_convert_bytes_string w' src dst e (some ad) n cap hs he hd]
  have hblk : ∀ i, (ad.add i).block = ad.block := fun i => by unfold Addr.add; split <;> rfl
  have hl : (loadCells ad n).run P w' = .ok ((bs.map fun b => (b.toNat : Int)).map (Value.int .u8)).toArray w' := by
    have := run_loadCells_list (P := P) w' ad ((bs.map fun b => (b.toNat : Int)).map (Value.int .u8)) (fun j v hv => ?_)
    · simpa [hn] using this
    · simp only [List.map_map, List.getElem?_map] at hv
      cases hb : bs[j]? with
      | none => rw [hb] at hv; cases hv
      | some b =>
        rw [hb] at hv
        simp at hv
        obtain ⟨u, h1, h2⟩ := hat j (.int .u8 b.toNat) (by simp [u8s, hb])
        cases h2
        have hne : bs ≠ [] := by rintro rfl; simp at hb
        rw [World.cell?_of_block (w := w) (by rw [hblk]; exact hw' hne), h1, ← hv]
  rw [run_bytesToString w' ad n cap _ hl, push_bytes]
  simp

theorem convA_ok {L : LE} (hL : LayOK P L) (r : RR B0 N Z m ml s a w) {src dst : Nat} {x : AV} {v : Value} {k : AV → Prop} (hx : VA N Z m ml w x v) (h : convA L s src dst x k) :
    ∃ r v', k r ∧ VA N Z m ml w r v' ∧ ∀ w' : World, Same Z m ml (plP x) w w' → (convert src dst v).run P w' = .ok v' w' := by
  replace h := convA_old _ _ _ _ _ _ h
  unfold convA0 at h
  split at h
  · rename_i ls ld hls hld
    have hs := hL.desc src ls hls
    have hd := hL.desc dst ld hld
    split at h
    · rename_i k1 k2 e1 e2
      rw [e1] at hs; rw [e2] at hd
      obtain ⟨ka, n, rfl, h⟩ := asI_ok hx h
      exact ⟨_, _, h.get, .d (.int _ _), fun w' _ => by simp [convert, run_underlying hs, run_underlying hd, Conv.intToInt]⟩
    · rename_i e e1 e2
      rw [e1] at hs; rw [e2] at hd
      split at h
      · rename_i le hle
        have he := hL.desc e le hle
        split at h
        · rename_i e3
          rw [e3] at he
          split at h
          · cases hx; rename_i hx; cases hx
            refine ⟨_, _, h, .d (.str _), fun w' _ => ?_⟩
            rw [run_convert_bytes_string w' src dst e none 0 0 hs he hd]
            simp [Conv.bytesToString]
          · obtain ⟨h1, h2⟩ := h.get
            clear h
            obtain ⟨bs, e4, h⟩ := h2.get
            clear h2
            subst e4
            cases hx; rename_i hx
            rcases hx.lst_inv with ⟨rfl, rfl, e0⟩ | ⟨ad, cap, u, rfl, hn, hz, hc, hv⟩
            · have e0 : bs = [] := by simpa [u8s] using e0
              subst e0
              refine ⟨_, _, h, .d (.str _), fun w' _ => ?_⟩
              rw [run_convert_bytes_string w' src dst e none 0 0 hs he hd]
              simp [Conv.bytesToString]; rfl
            have hat : At N Z m w ad (u8s bs) := fun i x hx => ⟨u i, hc i x hx, hv i x hx⟩
            exact ⟨_, _, h, .d (.str _), fun w' hw' => bytes_str hs he hd (by simpa [u8s] using h1) hat w' (fun hne => hw' _ (.inl (hz (by simpa [u8s] using hne))))⟩
          · rename_i o off n
            obtain ⟨ob, ho, h⟩ := h.get
            obtain ⟨h1, h⟩ := h.get
            obtain ⟨bs, h2, h⟩ := h.get
            cases hx; rename_i hx; cases hx; rename_i ad cap hoN ha hn
            obtain ⟨b, arr, hb, _⟩ := r.H.obj o ob ho
            obtain ⟨a1, _, _⟩ := ha b hb
            have hlen : bs.length = n := by
              have := congrArg List.length h2
              simp [u8s] at this; omega
            by_cases h0 : n = 0
            · subst h0
              have hb0 : bs = [] := List.eq_nil_of_length_eq_zero hlen
              subst hb0
              exact ⟨_, _, h, .d (.str _), fun w' _ => bytes_str hs he hd rfl (N := N) (Z := Z) (m := m) (w := w) (fun i x hx => by simp [u8s] at hx) w' (fun h => absurd rfl h)⟩
            · have hat := r.H.at (off := off) ho hb n
              rw [h2] at hat
              rw [a1 (.inl (by omega))]
              exact ⟨_, _, h, .d (.str _), fun w' hw' => bytes_str hs he hd hlen hat w' (fun _ => hw' _ (.inr ⟨b, hb, rfl⟩))⟩
          · exact h.elim
        · exact h.elim
      · exact h.elim
    · rename_i e1 e2
      rw [e1] at hs; rw [e2] at hd
      split at h
      · cases hx; rename_i hx; cases hx
        exact ⟨_, _, h, .d (.str _), fun w' _ => by simp [convert, run_underlying hs, run_underlying hd]⟩
      · exact h.elim
    · exact h.elim
  · exact h.elim

end

end Go.Proofs.Rv
