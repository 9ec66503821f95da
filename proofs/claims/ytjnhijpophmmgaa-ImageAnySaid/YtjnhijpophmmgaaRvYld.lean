/- RvYld: operations that read memory, and the yields of all operations that leave the world as it is. -/
import Derived.Test.YtjnhijpophmmgaaRvOps
import Derived.KernelRfl
set_option linter.unusedVariables false
set_option linter.unusedSimpArgs false
namespace Go.Proofs.Rv
open Go

def tkK : List FV → Nat → (List FV → Prop) → Prop
  | _, 0, k => k []
  | [], _ + 1, _ => False
  | x :: cs, n + 1, k => tkK cs n fun ys => k (x :: ys)

def subK : List FV → Nat → Nat → (List FV → Prop) → Prop
  | cs, 0, n, k => tkK cs n k
  | [], _ + 1, _, _ => False
  | _ :: cs, off + 1, n, k => subK cs off n k

theorem tkK_ok : ∀ {cs : List FV} {n : Nat} {k : List FV → Prop}, tkK cs n k → n ≤ cs.length ∧ k (cs.take n)
  | cs, 0, k, h => by cases cs <;> exact ⟨by simp, by simpa [tkK] using h⟩
  | [], n + 1, k, h => h.elim
  | x :: cs, n + 1, k, h => by
    obtain ⟨h1, h2⟩ := tkK_ok (cs := cs) (n := n) h
    exact ⟨by simp; omega, by simpa using h2⟩

theorem subK_ok : ∀ {cs : List FV} {off n : Nat} {k : List FV → Prop}, subK cs off n k → off + n ≤ cs.length ∧ k ((cs.drop off).take n)
  | cs, 0, n, k, h => by
    have h' : tkK cs n k := by cases cs <;> exact h
    obtain ⟨h1, h2⟩ := tkK_ok h'
    exact ⟨by omega, by simpa using h2⟩
  | [], off + 1, n, k, h => h.elim
  | x :: cs, off + 1, n, k, h => by
    obtain ⟨h1, h2⟩ := subK_ok (cs := cs) (off := off) (n := n) h
    exact ⟨by simp; omega, by simpa using h2⟩

/-- A part of cells that are not written out. -/
structure SubO (cs : List FV) (off n : Nat) (k : List FV → Prop) : Prop where intro ::
  out : ∃ xs, (cs.drop off).take n = xs ∧ off + n ≤ cs.length ∧ k xs
theorem SubO.mk {cs : List FV} {off n : Nat} {k : List FV → Prop} (xs : List FV) (h : (cs.drop off).take n = xs) (h' : off + n ≤ cs.length) (hk : k xs) : SubO cs off n k := by
  refine .intro ?_; exact ⟨xs, h, h', hk⟩
theorem SubO.get {cs : List FV} {off n : Nat} {k : List FV → Prop} (h : SubO cs off n k) : off + n ≤ cs.length ∧ k ((cs.drop off).take n) := by
  have h := h.out
  obtain ⟨xs, rfl, h1, h2⟩ := h
  exact ⟨h1, h2⟩

/-- An object of the heap. -/
structure ObjK (h : Heap) (o : Nat) (k : Obj → Prop) : Prop where intro ::
  out : ∃ ob, h o = some ob ∧ k ob
theorem ObjK.mk {h : Heap} {o : Nat} {k : Obj → Prop} (ob : Obj) (e : h o = some ob) (hk : k ob) : ObjK h o k := by refine .intro ?_; exact ⟨ob, e, hk⟩
theorem ObjK.get {h : Heap} {o : Nat} {k : Obj → Prop} (e : ObjK h o k) : ∃ ob, h o = some ob ∧ k ob := e.out

def wrapA (l : Lay) (xs : List FV) (k : AV → Prop) : Prop :=
  match l.d.isSt with
  | true => k (.agg xs)
  | false => match xs with
    | [x] => fc (.d x) k
    | _ => False

section
variable {P : Program} {N : Nat} {Z : Nat → Prop} {m : Nat → Option Blk} {ml : Nat → Option Nat} {w : World}

/-- Cells that lie in a row. -/
def At (N : Nat) (Z : Nat → Prop) (m : Nat → Option Blk) (w : World) (a : Addr) (xs : List FV) : Prop :=
  ∀ (i : Nat) (x : FV), xs[i]? = some x → ∃ u, w.cell? (a.add i) = some u ∧ VF N Z m w x u

theorem At.vals {a : Addr} {xs : List FV} (h : At N Z m w a xs) : ∃ us : List Value, us.length = xs.length ∧ (∀ (j : Nat) (u : Value), us[j]? = some u → w.cell? (a.add j) = some u) ∧
    ∀ (i : Nat) (x : FV) (u : Value), xs[i]? = some x → us[i]? = some u → VF N Z m w x u := by
  refine ⟨(List.range xs.length).map fun i => (w.cell? (a.add i)).getD undef, by simp, fun j u hu => ?_, fun i x u hx hu => ?_⟩
  · have hj : j < xs.length := by have := (List.getElem?_eq_some_iff.1 hu).1; simpa using this
    obtain ⟨v, h1, _⟩ := h j _ (List.getElem?_eq_getElem hj)
    simp [hj, h1] at hu
    rw [h1, hu]
  · obtain ⟨v, h1, h2⟩ := h i x hx
    have hi : i < xs.length := (List.getElem?_eq_some_iff.1 hx).1
    simp [hi, h1] at hu
    exact hu ▸ h2

theorem run_isAgg {L : LE} (hL : LayOK P L) {t : TypeId} {l : Lay} (hl : L t = some l) : (isAgg t).run P w = .ok l.d.isSt w := by
  cases hd : l.d.isSt with
  | true =>
    have h := hL.desc t l hl
    unfold LD.isSt at hd
    split at hd
    · rename_i fs hs
      rw [hs] at h
      obtain ⟨a, ha, _⟩ := h
      simp [isAgg, run_underlying ha]
    · cases hd
  | false =>
    obtain ⟨_, d, hu, hd'⟩ := hL.one t l hl hd
    simp only [isAgg, Sem.run_bind, run_underlying hu, Result.andThen_ok]
    cases d <;> first | rfl | (simp at hd'; done)

theorem run_size {L : LE} (hL : LayOK P L) {t : TypeId} {l : Lay} (hl : L t = some l) : (sizeOf t).run P w = .ok l.size w := by
  obtain ⟨i, z, h1, h2, _⟩ := hL.info t l hl
  simp [sizeOf, typeInfo, h1, h2]

theorem load_core {L : LE} (hL : LayOK P L) {t : TypeId} {l : Lay} (hl : L t = some l) {a : Addr} {xs : List FV} (hn : xs.length = l.size) (hat : At N Z m w a xs) {k : AV → Prop} (h : wrapA l xs k) :
    ∃ r v, k r ∧ VA N Z m ml w r v ∧ ∀ w' : World, w'.heap[a.block]? = w.heap[a.block]? → (loadVar t a).run P w' = .ok v w' := by
  unfold wrapA at h
  simp only [loadVar, Sem.run_bind, run_isAgg hL hl, Result.andThen_ok]
  have hblk : ∀ i, (a.add i).block = a.block := fun i => by unfold Addr.add; split <;> rfl
  cases hd : l.d.isSt with
  | true =>
    simp only [hd] at h
    obtain ⟨us, h1, h2, h3⟩ := hat.vals
    have hr : ∀ w' : World, w'.heap[a.block]? = w.heap[a.block]? → (loadCells a l.size).run P w' = .ok us.toArray w' := fun w' hw' => by
      have hr := run_loadCells_list (P := P) w' a us (fun j u hu => by rw [World.cell?_of_block (w := w) (by rw [hblk]; exact hw')]; exact h2 j u hu)
      rwa [h1, hn] at hr
    refine ⟨_, _, h, .agg xs us.toArray (by simpa using h1) fun i x v hx hv => h3 i x v hx (by simpa using hv), ?_⟩
    intro w' hw'
    simp [run_size hL hl, hr w' hw']
  | false =>
    simp only [hd] at h
    split at h
    · rename_i x
      obtain ⟨u, h1, h2⟩ := hat 0 x rfl
      refine ⟨_, u, fc_ok h, .d h2, ?_⟩
      have h1' : w.cell? a = some u := by simpa [Addr.add] using h1
      intro w' hw'
      have h1'' : w'.cell? a = some u := by rw [World.cell?_of_block hw']; exact h1'
      simp [load, Sem.run, h1'']
    · exact h.elim

theorem part_core {L : LE} (hL : LayOK P L) {t : TypeId} {l : Lay} (hl : L t = some l) {cs : List FV} {vs : Array Value} (hs : vs.size = cs.length)
    (hv : ∀ (i : Nat) (x : FV) (v : Value), cs[i]? = some x → vs[i]? = some v → VF N Z m w x v) {off : Nat} (ho : off + l.size ≤ cs.length) {k : AV → Prop} (h : wrapA l ((cs.drop off).take l.size) k) :
    ∃ r v, k r ∧ VA N Z m ml w r v ∧ ∀ w' : World, (part t vs off).run P w' = .ok v w' := by
  unfold wrapA at h
  simp only [part, Sem.run_bind, run_isAgg hL hl, Result.andThen_ok]
  cases hd : l.d.isSt with
  | true =>
    simp only [hd] at h
    refine ⟨_, _, h, .agg _ (vs.extract off (off + l.size)) (by simp; omega) fun i x v hx hu => ?_, fun w' => by simp [run_size hL hl]⟩
    have hi : i < l.size := by have := (List.getElem?_eq_some_iff.1 hx).1; simp at this; omega
    rw [List.getElem?_take_of_lt hi, List.getElem?_drop] at hx
    rw [Array.getElem?_extract] at hu
    split at hu
    · exact hv _ x v hx hu
    · cases hu
  | false =>
    simp only [hd] at h
    split at h
    · rename_i x hx
      obtain ⟨h1, _⟩ := hL.one t l hl hd
      have e : cs[off]? = some x := by
        have : ((cs.drop off).take l.size)[0]? = some x := by rw [hx]; rfl
        rw [h1, List.getElem?_take_of_lt (by omega), List.getElem?_drop] at this
        simpa using this
      have hlt : off < vs.size := by rw [hs]; omega
      refine ⟨_, vs[off], fc_ok h, .d (hv off x _ e (Array.getElem?_eq_getElem hlt)), ?_⟩
      intro w'
      simp [Array.getElem?_eq_getElem hlt]
    · exact h.elim

end

def ldA0 (L : LE) (s : St) (t : TypeId) (p : AV) (k : AV → Prop) : Prop :=
  match L t with
  | none => False
  | some l => match p with
    | .lp u off => match lkL s.loc u with
      | none => False
      | some cs => subK cs off l.size fun xs => wrapA l xs k
    | .d (.ptr o off) => ObjK s.h o fun ob => match ob.ar with
      | false => subK ob.cells off l.size fun xs => wrapA l xs k
      | true => SubO ob.cells off l.size fun xs => wrapA l xs k
    | .d (.fptr cs off) => match Nat.beq l.size 0 with
      | true => False
      | false => SubO cs off l.size fun xs => wrapA l xs k
    | _ => False

/-- A load. -/
def ldA (L : LE) (s : St) (t : TypeId) (p : AV) (k : AV → Prop) : Prop :=
  match s with
  | ⟨tm, loc, hp⟩ =>
    match L t with
    | none => False
    | some ⟨lsz, lby, lz, ld, leq⟩ => match p with
      | .lp u off => match lkL loc u with
        | none => False
        | some cs => subK cs off lsz fun xs => wrapA ⟨lsz, lby, lz, ld, leq⟩ xs k
      | .d (.ptr o off) => ObjK hp o fun ob => match ob with
        | ⟨cells, _, _, _, ar⟩ => match ar with
          | false => subK cells off lsz fun xs => wrapA ⟨lsz, lby, lz, ld, leq⟩ xs k
          | true => SubO cells off lsz fun xs => wrapA ⟨lsz, lby, lz, ld, leq⟩ xs k
      | .d (.fptr cs off) => match Nat.beq lsz 0 with
        | true => False
        | false => SubO cs off lsz fun xs => wrapA ⟨lsz, lby, lz, ld, leq⟩ xs k
      | _ => False

theorem ldA_old (L : LE) (s : St) (t : TypeId) (p : AV) (k : AV → Prop) (hx_ : ldA L s t p k) : ldA0 L s t p k := by
  have e : (ldA L s t p k) = (ldA0 L s t p k) := by cases s; kernel_rfl
  exact e ▸ hx_
theorem ldA_new (L : LE) (s : St) (t : TypeId) (p : AV) (k : AV → Prop) (hx_ : ldA0 L s t p k) : ldA L s t p k := by
  have e : (ldA0 L s t p k) = (ldA L s t p k) := by cases s; kernel_rfl
  exact e ▸ hx_

/-- A place: a slot, an object. -/
inductive Pl where
  | sl (t : Nat) | ob (o : Nat) | no

/-- The place that an address, or a slice, is of. -/
def plP (p : AV) : Pl :=
  match p with
  | .lp u _ => .sl u
  | .d (.ptr o _) => .ob o
  | .d (.ref o _ _) => .ob o
  | _ => .no

def plB (m : Nat → Option Blk) (ml : Nat → Option Nat) : Pl → Nat → Prop
  | .sl t, b => ml t = some b
  | .ob o, b => ∃ bb, m o = some bb ∧ bb.b = b
  | .no, _ => False

/-- In every world that has the same in what is frozen, and in the place 'p'. -/
def Same (Z : Nat → Prop) (m : Nat → Option Blk) (ml : Nat → Option Nat) (p : Pl) (w w' : World) : Prop :=
  ∀ b, (Z b ∨ plB m ml p b) → w'.heap[b]? = w.heap[b]?

theorem Same.refl (Z : Nat → Prop) (m : Nat → Option Blk) (ml : Nat → Option Nat) (p : Pl) (w : World) : Same Z m ml p w w := fun _ _ => rfl

section
variable {P : Program} {B0 N : Nat} {Z : Nat → Prop} {m : Nat → Option Blk} {ml : Nat → Option Nat} {w : World} {s : St} {a : Act}

theorem addr_add (b o i : Nat) : (⟨b, o, none⟩ : Addr).add i = ⟨b, o + i, none⟩ := Addr.add_lit b o i

theorem At.of_block {b : Nat} {arr : Array Value} {T : TypeId} {fr : Nat × Nat} (hb : w.heap[b]? = some (.cells arr T fr)) {cs : List FV}
    (hc : ∀ (i : Nat) (x : FV), cs[i]? = some x → ∃ v, arr[i]? = some v ∧ VF N Z m w x v) (off n : Nat) : At N Z m w ⟨b, off, none⟩ ((cs.drop off).take n) := by
  intro i x hx
  have hi : i < n := by
    have h1 := (List.getElem?_eq_some_iff.1 hx).1
    simp only [List.length_take] at h1
    omega
  rw [List.getElem?_take_of_lt hi, List.getElem?_drop] at hx
  obtain ⟨v, h1, h2⟩ := hc _ x hx
  exact ⟨v, by rw [addr_add]; simp [World.cell?, hb, h1], h2⟩

theorem RelL.at (r : RelL B0 N Z m ml s.loc w) {t b off : Nat} {cs : List FV} (h : lkL s.loc t = some cs) (hb : ml t = some b) (n : Nat) : At N Z m w ⟨b, off, none⟩ ((cs.drop off).take n) := by
  obtain ⟨b', arr, T, h1, h2, _, h4⟩ := r.sl t cs h
  rw [hb] at h1; cases h1
  exact At.of_block h2 h4 off n

theorem RelH.at (r : RelH N Z m s.h w) {o off : Nat} {ob : Obj} {b : Blk} (h : s.h o = some ob) (hb : m o = some b) (n : Nat) : At N Z m w ⟨b.b, off, none⟩ ((ob.cells.drop off).take n) := by
  obtain ⟨b', arr, h1, _, _, h2, _, _, h4, _⟩ := r.obj o ob h
  rw [hb] at h1; cases h1
  exact At.of_block h2 h4 off n

theorem length_sub {cs : List FV} {off n : Nat} (h : off + n ≤ cs.length) : ((cs.drop off).take n).length = n := by simp; omega

theorem ldA_ok {L : LE} (hL : LayOK P L) (r : RR B0 N Z m ml s a w) {t : TypeId} {p : AV} {vp : Value} (hp : VA N Z m ml w p vp) {k : AV → Prop} (h : ldA L s t p k) :
    ∃ r v, k r ∧ VA N Z m ml w r v ∧ ∀ w' : World, Same Z m ml (plP p) w w' → (Instr.loadAt t vp).run P w' = .ok v w' := by
  replace h := ldA_old _ _ _ _ _ h
  unfold ldA0 at h
  split at h
  · exact h.elim
  · rename_i l hl
    split at h
    · split at h
      · exact h.elim
      · rename_i u off _ cs hcs
        cases hp; rename_i a' ha'
        obtain ⟨b, arr, T, hb, _⟩ := r.L.sl u cs hcs
        obtain rfl := ha' b hb
        obtain ⟨h1, h2⟩ := subK_ok h
        obtain ⟨r', v, h3, h4, h5⟩ := load_core (ml := ml) hL hl (length_sub h1) (r.L.at hcs hb l.size) h2
        exact ⟨r', v, h3, h4, fun w' hw' => by simp [Instr.loadAt, Instr.sureAddr, h5 w' (hw' _ (.inr hb))]⟩
    · rename_i o off
      obtain ⟨ob, ho, h⟩ := h.get
      cases hp; rename_i hp; cases hp; rename_i a' hoN ha'
      obtain ⟨b, arr, hb, _⟩ := r.H.obj o ob ho
      obtain rfl := ha' b hb
      have key : off + l.size ≤ ob.cells.length ∧ wrapA l ((ob.cells.drop off).take l.size) k := by
        split at h
        · exact subK_ok h
        · exact h.get
      obtain ⟨r', v, h3, h4, h5⟩ := load_core (ml := ml) hL hl (length_sub key.1) (r.H.at ho hb l.size) key.2
      exact ⟨r', v, h3, h4, fun w' hw' => by simp [Instr.loadAt, Instr.sureAddr, h5 w' (hw' _ (.inr ⟨b, hb, rfl⟩))]⟩
    · rename_i cs off
      cases hp; rename_i hp; cases hp; rename_i a' u hz hc hv
      split at h
      · exact h.elim
      rename_i hs0
      obtain ⟨h1, h2⟩ := h.get
      have hne : cs ≠ [] := by
        rintro rfl
        have : l.size = 0 := by simp at h1; omega
        rw [this] at hs0; cases hs0
      have hat : At N Z m w a' ((cs.drop off).take l.size) := by
        intro i x hx
        have hi : i < l.size := by
          have h1 := (List.getElem?_eq_some_iff.1 hx).1
          simp only [List.length_take] at h1
          omega
        rw [List.getElem?_take_of_lt hi, List.getElem?_drop] at hx
        exact ⟨u i, hc i x hx, hv i x hx⟩
      obtain ⟨r', v, h3, h4, h5⟩ := load_core (ml := ml) hL hl (length_sub h1) hat h2
      exact ⟨r', v, h3, h4, fun w' hw' => by simp [Instr.loadAt, Instr.sureAddr, h5 w' (hw' _ (.inl (hz hne)))]⟩
    · exact h.elim

end

end Go.Proofs.Rv
