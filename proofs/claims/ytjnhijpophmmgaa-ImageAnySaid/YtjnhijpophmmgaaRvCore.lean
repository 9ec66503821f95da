/- RvCore: a program logic over named objects: values as trees, frozen lists, objects by number; the relation to the model's memory, and its laws. -/
import Derived.Orders
import Derived.Deep.AppendLies
import Derived.Laws.MakeOwn
import Derived.Laws.CopyRow
set_option linter.unusedVariables false
set_option linter.unusedSimpArgs false
namespace Go.Proofs.Rv
open Go

/-- A value that holds no address of the frame's own: numbers, frozen lists, numbers of objects. -/
inductive FV where
  | int (k : IntKind) (n : Int)
  | bool (b : Bool)
  | str (s : ByteArray)
  | nilp | nils | nilf | nili
  | ptr (o off : Nat)
  | ref (o off n : Nat)
  | lst (n : Nat) (cells : List FV)
  | fptr (cells : List FV) (off : Nat)
  | fn (f : Nat) (cap : List FV)
  | acc (c : Option Nat) (n : Nat)

/-- Where an object lies: its block, the block's cells, the cells of an element. -/
structure Blk where
  b : Nat
  sz : Nat
  es : Nat

/-- 'x' says what 'v' is. -/
inductive VF (N : Nat) (Z : Nat → Prop) (m : Nat → Option Blk) (w : World) : FV → Value → Prop where
  | int (k : IntKind) (n : Int) : VF N Z m w (.int k n) (.int k n)
  | bool (b : Bool) : VF N Z m w (.bool b) (.bool b)
  | str (s : ByteArray) : VF N Z m w (.str s) (.string s)
  | nilp : VF N Z m w .nilp (.pointer none)
  | nils : VF N Z m w .nils (.slice none 0 0)
  | nilf : VF N Z m w .nilf .nilFunc
  | nili : VF N Z m w .nili .nilIface
  | ptr (o off : Nat) (a : Addr) (ho : o < N) (ha : ∀ b, m o = some b → a = ⟨b.b, off, none⟩) : VF N Z m w (.ptr o off) (.pointer (some a))
  | ref (o off n : Nat) (a : Addr) (cap : Nat) (ho : o < N) (hn : n ≤ cap) (ha : ∀ b, m o = some b → (0 < cap ∨ off = 0 → a = ⟨b.b, off, none⟩) ∧ off + cap * b.es = b.sz ∧ cap ≤ maxLen) :
      VF N Z m w (.ref o off n) (.slice (some a) n cap)
  | lst (n : Nat) (cells : List FV) (a : Addr) (cap : Nat) (u : Nat → Value) (hn : n ≤ cap) (hz : cells ≠ [] → Z a.block)
      (hc : ∀ (i : Nat) (x : FV), cells[i]? = some x → w.cell? (a.add i) = some (u i)) (hv : ∀ (i : Nat) (x : FV), cells[i]? = some x → VF N Z m w x (u i)) :
      VF N Z m w (.lst n cells) (.slice (some a) n cap)
  | fptr (cells : List FV) (off : Nat) (a : Addr) (u : Nat → Value) (hz : cells ≠ [] → Z a.block)
      (hc : ∀ (i : Nat) (x : FV), cells[off + i]? = some x → w.cell? (a.add i) = some (u i)) (hv : ∀ (i : Nat) (x : FV), cells[off + i]? = some x → VF N Z m w x (u i)) :
      VF N Z m w (.fptr cells off) (.pointer (some a))
  | fn (f : Nat) (cap : List FV) (us : Array Value) (hs : us.size = cap.length) (hv : ∀ (i : Nat) (x : FV) (v : Value), cap[i]? = some x → us[i]? = some v → VF N Z m w x v) :
      VF N Z m w (.fn f cap) (.func (.func f) #[] us)
  | lst0 : VF N Z m w (.lst 0 []) (.slice none 0 0)
  | acc0 : VF N Z m w (.acc none 0) (.slice none 0 0)
  | acc1 (o n : Nat) (v : Value) (h : VF N Z m w (.ref o 0 n) v) : VF N Z m w (.acc (some o) n) v

theorem VF.mono {N N' : Nat} {Z Z' : Nat → Prop} {m m' : Nat → Option Blk} {w w' : World} (hN : N ≤ N') (hZ : ∀ b, Z b → Z' b)
    (hm : ∀ o, o < N → m' o = m o ∨ m' o = none) (hw : ∀ b, Z b → w'.heap[b]? = w.heap[b]?) {x : FV} {v : Value} (h : VF N Z m w x v) : VF N' Z' m' w' x v := by
  induction h with
  | int | bool | str | nilp | nils | nilf | nili | lst0 | acc0 => constructor
  | acc1 o n v _ ih => exact .acc1 o n v ih
  | ptr o off a ho ha =>
    refine .ptr o off a (Nat.lt_of_lt_of_le ho hN) fun b hb => ?_
    rcases hm o ho with h | h
    · exact ha b (h ▸ hb)
    · rw [h] at hb; cases hb
  | ref o off n a cap ho hn ha =>
    refine .ref o off n a cap (Nat.lt_of_lt_of_le ho hN) hn fun b hb => ?_
    rcases hm o ho with h | h
    · exact ha b (h ▸ hb)
    · rw [h] at hb; cases hb
  | lst n cells a cap u hn hz hc _ ih =>
    refine .lst n cells a cap u hn (fun h => hZ _ (hz h)) (fun i x hx => ?_) ih
    have hne : cells ≠ [] := by rintro rfl; simp at hx
    have hb : (a.add i).block = a.block := by unfold Addr.add; split <;> rfl
    rw [World.cell?_of_block (w := w) (by rw [hb]; exact hw _ (hz hne))]
    exact hc i x hx
  | fptr cells off a u hz hc _ ih =>
    refine .fptr cells off a u (fun h => hZ _ (hz h)) (fun i x hx => ?_) ih
    have hne : cells ≠ [] := by rintro rfl; simp at hx
    have hb : (a.add i).block = a.block := by unfold Addr.add; split <;> rfl
    rw [World.cell?_of_block (w := w) (by rw [hb]; exact hw _ (hz hne))]
    exact hc i x hx
  | fn f cap us hs _ ih => exact .fn f cap us hs ih

/-- Every such value is the value of one cell. -/
theorem VF.oneCell {N : Nat} {Z : Nat → Prop} {m : Nat → Option Blk} {w : World} {x : FV} {v : Value} (h : VF N Z m w x v) : v.oneCell' = true := by
  induction h <;> first | rfl | assumption

/-- A list, seen as a slice: nil, or not. -/
theorem VF.lst_sl {N : Nat} {Z : Nat → Prop} {m : Nat → Option Blk} {w : World} {n : Nat} {cs : List FV} {v : Value} (h : VF N Z m w (.lst n cs) v) : ∃ a c, v = .slice a n c ∧ (a = none → n = 0 ∧ c = 0) := by
  cases h
  · exact ⟨_, _, rfl, by simp⟩
  · exact ⟨_, _, rfl, by simp⟩
theorem VF.acc_sl {N : Nat} {Z : Nat → Prop} {m : Nat → Option Blk} {w : World} {c : Option Nat} {n : Nat} {v : Value} (h : VF N Z m w (.acc c n) v) : ∃ a c, v = .slice a n c ∧ (a = none → n = 0 ∧ c = 0) := by
  cases h
  · exact ⟨_, _, rfl, by simp⟩
  · rename_i h; cases h; exact ⟨_, _, rfl, by simp⟩
theorem VF.lst_inv {N : Nat} {Z : Nat → Prop} {m : Nat → Option Blk} {w : World} {n : Nat} {cs : List FV} {v : Value} (h : VF N Z m w (.lst n cs) v) : (v = .slice none 0 0 ∧ n = 0 ∧ cs = []) ∨
    ∃ (a : Addr) (cap : Nat) (u : Nat → Value), v = .slice (some a) n cap ∧ n ≤ cap ∧ (cs ≠ [] → Z a.block) ∧ (∀ (i : Nat) (x : FV), cs[i]? = some x → w.cell? (a.add i) = some (u i)) ∧ ∀ (i : Nat) (x : FV), cs[i]? = some x → VF N Z m w x (u i) := by
  cases h
  · exact .inr ⟨_, _, _, rfl, by assumption, by assumption, by assumption, by assumption⟩
  · exact .inl ⟨rfl, rfl, rfl⟩

/-- What a temporary holds. -/
inductive AV where
  | d (x : FV)
  | tt | ff
  | lp (t off : Nat)
  | agg (xs : List FV)
  | tup (xs : List AV)
  | undef
  | dfr (f : Nat) (xs : List AV)

inductive VA (N : Nat) (Z : Nat → Prop) (m : Nat → Option Blk) (ml : Nat → Option Nat) (w : World) : AV → Value → Prop where
  | d {x : FV} {v : Value} (h : VF N Z m w x v) : VA N Z m ml w (.d x) v
  | tt : VA N Z m ml w .tt (.bool true)
  | ff : VA N Z m ml w .ff (.bool false)
  | lp (t off : Nat) (a : Addr) (ha : ∀ b, ml t = some b → a = ⟨b, off, none⟩) : VA N Z m ml w (.lp t off) (.pointer (some a))
  | agg (xs : List FV) (vs : Array Value) (hs : vs.size = xs.length) (hv : ∀ (i : Nat) (x : FV) (v : Value), xs[i]? = some x → vs[i]? = some v → VF N Z m w x v) : VA N Z m ml w (.agg xs) (.agg vs)
  | tup (xs : List AV) (vs : Array Value) (hs : vs.size = xs.length) (hv : ∀ (i : Nat) (x : AV) (v : Value), xs[i]? = some x → vs[i]? = some v → VA N Z m ml w x v) : VA N Z m ml w (.tup xs) (.tuple vs)
  | undef (v : Value) : VA N Z m ml w .undef v

theorem VA.mono {N N' : Nat} {Z Z' : Nat → Prop} {m m' : Nat → Option Blk} {ml ml' : Nat → Option Nat} {w w' : World} (hN : N ≤ N') (hZ : ∀ b, Z b → Z' b)
    (hm : ∀ o, o < N → m' o = m o ∨ m' o = none) (hw : ∀ b, Z b → w'.heap[b]? = w.heap[b]?) (hl : ∀ t b, ml' t = some b → ml t = some b) {x : AV} {v : Value} (h : VA N Z m ml w x v) :
    VA N' Z' m' ml' w' x v := by
  induction h with
  | d h => exact .d (h.mono hN hZ hm hw)
  | tt => exact .tt
  | ff => exact .ff
  | lp t off a ha => exact .lp t off a fun b hb => ha b (hl t b hb)
  | agg xs vs hs hv => exact .agg xs vs hs fun i x v hx hu => (hv i x v hx hu).mono hN hZ hm hw
  | tup xs vs hs _ ih => exact .tup xs vs hs ih
  | undef v => exact .undef v

mutual
/-- Does it hold the address of slot 't'? -/
def AV.has (t : Nat) : AV → Bool
  | .lp u _ => Nat.beq u t
  | .tup xs => AV.hasAny t xs
  | .dfr _ xs => AV.hasAny t xs
  | _ => false
def AV.hasAny (t : Nat) : List AV → Bool
  | [] => false
  | x :: xs => AV.has t x || AV.hasAny t xs
end
mutual
/-- Does it hold no address of a slot? -/
def AV.clean : AV → Bool
  | .lp _ _ => false
  | .dfr _ _ => false
  | .tup xs => AV.cleanAll xs
  | _ => true
def AV.cleanAll : List AV → Bool
  | [] => true
  | x :: xs => AV.clean x && AV.cleanAll xs
end

theorem AV.hasAny_get {t : Nat} : ∀ {xs : List AV} {i : Nat} {x : AV}, AV.hasAny t xs = false → xs[i]? = some x → AV.has t x = false
  | [], _, _, _, h => by simp at h
  | y :: ys, 0, x, ha, h => by simp [AV.hasAny] at ha; simp at h; exact h ▸ ha.1
  | y :: ys, i + 1, x, ha, h => by simp [AV.hasAny] at ha; simp at h; exact AV.hasAny_get ha.2 h

theorem AV.cleanAll_get : ∀ {xs : List AV} {i : Nat} {x : AV}, AV.cleanAll xs = true → xs[i]? = some x → AV.clean x = true
  | [], _, _, _, h => by simp at h
  | y :: ys, 0, x, ha, h => by simp [AV.cleanAll] at ha; simp at h; exact h ▸ ha.1
  | y :: ys, i + 1, x, ha, h => by simp [AV.cleanAll] at ha; simp at h; exact AV.cleanAll_get ha.2 h

/-- A slot that a value does not name may be turned. -/
theorem VA.slot {N : Nat} {Z : Nat → Prop} {m : Nat → Option Blk} {ml ml' : Nat → Option Nat} {w : World} {t : Nat} (hl : ∀ u, u ≠ t → ∀ b, ml' u = some b → ml u = some b) {x : AV} {v : Value}
    (h : VA N Z m ml w x v) : AV.has t x = false → VA N Z m ml' w x v := by
  induction h with
  | d h => exact fun _ => .d h
  | tt => exact fun _ => .tt
  | ff => exact fun _ => .ff
  | lp u off a ha =>
    intro hh
    refine .lp u off a fun b hb => ha b (hl u ?_ b hb)
    rintro rfl
    simp [AV.has] at hh
  | agg xs vs hs hv => exact fun _ => .agg xs vs hs hv
  | tup xs vs hs _ ih => exact fun hh => .tup xs vs hs fun i x v hx hu => ih i x v hx hu (AV.hasAny_get (by simpa [AV.has] using hh) hx)
  | undef v => exact fun _ => .undef v

theorem VA.clean {N : Nat} {Z : Nat → Prop} {m : Nat → Option Blk} {ml ml' : Nat → Option Nat} {w : World} {x : AV} {v : Value}
    (h : VA N Z m ml w x v) : AV.clean x = true → VA N Z m ml' w x v := by
  induction h with
  | d h => exact fun _ => .d h
  | tt => exact fun _ => .tt
  | ff => exact fun _ => .ff
  | lp u off a ha => intro hh; simp [AV.clean] at hh
  | agg xs vs hs hv => exact fun _ => .agg xs vs hs hv
  | tup xs vs hs _ ih => exact fun hh => .tup xs vs hs fun i x v hx hu => ih i x v hx hu (AV.cleanAll_get (by simpa [AV.clean] using hh) hx)
  | undef v => exact fun _ => .undef v

/-- An object: what its cells hold, its cells' type, the cells of an element, is it frozen? -/
structure Obj where
  cells : List FV
  ty : TypeId
  es : Nat
  ro : Bool
  ar : Bool

abbrev Heap := Nat → Option Obj

def Heap.upd (h : Heap) (o : Nat) (x : Obj) : Heap := fun p => if p = o then some x else h p
def Heap.del (h : Heap) (o : Nat) : Heap := fun p => if p = o then none else h p

structure RelH (N : Nat) (Z : Nat → Prop) (m : Nat → Option Blk) (h : Heap) (w : World) : Prop where
  non : ∀ o, h o = none → m o = none
  obj : ∀ o ob, h o = some ob → ∃ b arr, m o = some b ∧ o < N ∧ b.es = ob.es ∧ w.heap[b.b]? = some (.cells arr ob.ty (0, 0)) ∧ arr.size = b.sz ∧ ob.cells.length ≤ b.sz ∧
    (∀ (i : Nat) (x : FV), ob.cells[i]? = some x → ∃ v, arr[i]? = some v ∧ VF N Z m w x v) ∧ (Z b.b ↔ ob.ro = true)
  inj : ∀ o o' b b', m o = some b → m o' = some b' → b.b = b'.b → o = o'
  zlt : ∀ b, Z b → b < w.heap.size

theorem RelH.has {N : Nat} {Z : Nat → Prop} {m : Nat → Option Blk} {h : Heap} {w : World} (r : RelH N Z m h w) {o : Nat} {b : Blk} (hb : m o = some b) : ∃ ob, h o = some ob := by
  cases ho : h o with
  | none => rw [r.non o ho] at hb; cases hb
  | some ob => exact ⟨ob, rfl⟩

theorem RelH.lt {N : Nat} {Z : Nat → Prop} {m : Nat → Option Blk} {h : Heap} {w : World} (r : RelH N Z m h w) {o : Nat} {b : Blk} (hb : m o = Option.some b) : o < N ∧ b.b < w.heap.size := by
  obtain ⟨ob, ho⟩ := r.has hb
  obtain ⟨b', arr, h1, h2, _, h3, _⟩ := r.obj o ob ho
  rw [hb] at h1; cases h1
  refine ⟨h2, ?_⟩
  rcases Nat.lt_or_ge b.b w.heap.size with h | h
  · exact h
  · rw [Array.getElem?_eq_none h] at h3; cases h3

def lkL : List (Nat × List FV) → Nat → Option (List FV)
  | [], _ => none
  | (u, cs) :: l, t => match Nat.beq u t with | true => some cs | false => lkL l t

structure RelL (B0 : Nat) (N : Nat) (Z : Nat → Prop) (m : Nat → Option Blk) (ml : Nat → Option Nat) (loc : List (Nat × List FV)) (w : World) : Prop where
  sl : ∀ t cs, lkL loc t = some cs → ∃ b arr T, ml t = some b ∧ w.heap[b]? = some (.cells arr T (0, 0)) ∧ arr.size = cs.length ∧
    (∀ (i : Nat) (x : FV), cs[i]? = some x → ∃ v, arr[i]? = some v ∧ VF N Z m w x v)
  dom : ∀ t b, ml t = some b → (∃ cs, lkL loc t = some cs) ∧ B0 ≤ b ∧ b < w.heap.size ∧ ¬ Z b ∧ ∀ o bb, m o = some bb → bb.b ≠ b
  inj : ∀ t t' b, ml t = some b → ml t' = some b → t = t'

structure St where
  tm : List AV
  loc : List (Nat × List FV)
  h : Heap

structure RelT (N : Nat) (Z : Nat → Prop) (m : Nat → Option Blk) (ml : Nat → Option Nat) (tm : List AV) (a : Act) (w : World) : Prop where
  size : a.tmps.size + a.defers.length = tm.length
  get : ∀ (i : Nat) (x : AV) (v : Value), tm[i]? = some x → a.tmps[i]? = some v → VA N Z m ml w x v
  dfr : ∀ (i : Nat) (d : Deferred), a.defers[i]? = some d → ∃ f xs vs, tm[a.tmps.size + i]? = some (.dfr f xs) ∧ d = ⟨.fn (.func f) #[], vs⟩ ∧ vs.size = xs.length ∧
    ∀ (j : Nat) (x : AV) (v : Value), xs[j]? = some x → vs[j]? = some v → VA N Z m ml w x v

/-- What is deferred stands behind the temporaries. -/
theorem RelT.pos {N : Nat} {Z : Nat → Prop} {m : Nat → Option Blk} {ml : Nat → Option Nat} {tm : List AV} {a : Act} {w : World} (r : RelT N Z m ml tm a w) {i : Nat} {x : AV} (h : tm[i]? = some x) :
    (i < a.tmps.size ∧ ∀ f xs, x ≠ .dfr f xs) ∨ (a.tmps.size ≤ i ∧ ∃ f xs, x = .dfr f xs) := by
  have hi : i < tm.length := (List.getElem?_eq_some_iff.1 h).1
  have hs := r.size
  rcases Nat.lt_or_ge i a.tmps.size with hlt | hge
  · refine .inl ⟨hlt, fun f xs e => ?_⟩
    have := r.get i x a.tmps[i] h (Array.getElem?_eq_getElem hlt)
    subst e; cases this
  · refine .inr ⟨hge, ?_⟩
    have hd : i - a.tmps.size < a.defers.length := by omega
    obtain ⟨f, xs, vs, h1, _⟩ := r.dfr (i - a.tmps.size) _ (List.getElem?_eq_getElem hd)
    rw [show a.tmps.size + (i - a.tmps.size) = i by omega, h] at h1
    cases h1; exact ⟨f, xs, rfl⟩

structure RR (B0 N : Nat) (Z : Nat → Prop) (m : Nat → Option Blk) (ml : Nat → Option Nat) (s : St) (a : Act) (w : World) : Prop where
  H : RelH N Z m s.h w
  L : RelL B0 N Z m ml s.loc w
  T : RelT N Z m ml s.tm a w
  B : B0 ≤ w.heap.size

/-- From one world to another one: what may have turned: objects of 'T', blocks of 'S'. -/
structure Stp (T S : Nat → Prop) (N : Nat) (Z : Nat → Prop) (m : Nat → Option Blk) (w : World) (N' : Nat) (Z' : Nat → Prop) (m' : Nat → Option Blk) (w' : World) : Prop where
  nn : N ≤ N'
  zz : ∀ b, Z b → Z' b
  mm : ∀ o, o < N → m' o = m o ∨ m' o = none
  mnew : ∀ o b, m' o = some b → m o = some b ∨ (N ≤ o ∧ (w.heap.size ≤ b.b ∨ ∃ o1 b1, T o1 ∧ m o1 = some b1 ∧ b1.b = b.b))
  znew : ∀ b, Z' b → Z b ∨ (∃ o bb, m o = some bb ∧ bb.b = b) ∨ w.heap.size ≤ b
  sz : w.heap.size ≤ w'.heap.size
  fr : ∀ b, b < w.heap.size → (Z b ∨ ((∀ o bb, T o → m o = some bb → bb.b ≠ b) ∧ ¬ S b)) → w'.heap[b]? = w.heap[b]?
  os : w'.os = w.os
  tape : w'.tape = w.tape
  output : w'.output = w.output

theorem Stp.refl (T S : Nat → Prop) (N : Nat) (Z : Nat → Prop) (m : Nat → Option Blk) (w : World) : Stp T S N Z m w N Z m w :=
  ⟨Nat.le_refl _, fun _ h => h, fun _ _ => .inl rfl, fun _ _ h => .inl h, fun _ h => .inl h, Nat.le_refl _, fun _ _ _ => rfl, rfl, rfl, rfl⟩

theorem Stp.trans {T S T' S' : Nat → Prop} {N : Nat} {Z : Nat → Prop} {m : Nat → Option Blk} {w : World} {N1 : Nat} {Z1 : Nat → Prop} {m1 : Nat → Option Blk} {w1 : World}
    {N2 : Nat} {Z2 : Nat → Prop} {m2 : Nat → Option Blk} {w2 : World} (h1 : Stp T S N Z m w N1 Z1 m1 w1) (h2 : Stp T' S' N1 Z1 m1 w1 N2 Z2 m2 w2)
    (hT : ∀ o, T' o → T o ∨ m o = none) (hS : ∀ b, S' b → S b ∨ w.heap.size ≤ b) : Stp T S N Z m w N2 Z2 m2 w2 where
  nn := Nat.le_trans h1.nn h2.nn
  zz := fun b h => h2.zz b (h1.zz b h)
  mm := fun o ho => by
    rcases h2.mm o (Nat.lt_of_lt_of_le ho h1.nn) with h | h
    · rw [h]; exact h1.mm o ho
    · exact .inr h
  mnew := fun o b hb => by
    rcases h2.mnew o b hb with h | ⟨h, h' | ⟨o1, b1, t1, m1, e1⟩⟩
    · exact h1.mnew o b h
    · exact .inr ⟨Nat.le_trans h1.nn h, .inl (Nat.le_trans h1.sz h')⟩
    · refine .inr ⟨Nat.le_trans h1.nn h, ?_⟩
      rcases h1.mnew o1 b1 m1 with g | ⟨_, g | ⟨o2, b2, t2, m2, e2⟩⟩
      · rcases hT o1 t1 with k | k
        · exact .inr ⟨o1, b1, k, g, e1⟩
        · rw [k] at g; cases g
      · exact .inl (by omega)
      · exact .inr ⟨o2, b2, t2, m2, by omega⟩
  znew := fun b hb => by
    rcases h2.znew b hb with h | ⟨o, bb, ho, rfl⟩ | h
    · exact h1.znew b h
    · rcases h1.mnew o bb ho with h | ⟨_, h | ⟨o1, b1, _, m1, e1⟩⟩
      · exact .inr (.inl ⟨o, bb, h, rfl⟩)
      · exact .inr (.inr h)
      · exact .inr (.inl ⟨o1, b1, m1, e1⟩)
    · exact .inr (.inr (Nat.le_trans h1.sz h))
  sz := Nat.le_trans h1.sz h2.sz
  fr := fun b hb hc => by
    rw [h2.fr b (Nat.lt_of_lt_of_le hb h1.sz) ?_, h1.fr b hb hc]
    rcases hc with hc | ⟨hc, hs⟩
    · exact .inl (h1.zz b hc)
    · refine .inr ⟨fun o bb ho hm e => ?_, fun hs' => ?_⟩
      · rcases h1.mnew o bb hm with h | ⟨_, h | ⟨o1, b1, t1, m1, e1⟩⟩
        · rcases hT o ho with h' | h'
          · exact hc o bb h' h e
          · rw [h'] at h; cases h
        · omega
        · exact hc o1 b1 t1 m1 (by omega)
      · rcases hS b hs' with h | h
        · exact hs h
        · omega
  os := h2.os.trans h1.os
  tape := h2.tape.trans h1.tape
  output := h2.output.trans h1.output

theorem Stp.weaken {T S T' S' : Nat → Prop} {N : Nat} {Z : Nat → Prop} {m : Nat → Option Blk} {w : World} {N1 : Nat} {Z1 : Nat → Prop} {m1 : Nat → Option Blk} {w1 : World}
    (h : Stp T S N Z m w N1 Z1 m1 w1) (hT : ∀ o, T o → T' o) (hS : ∀ b, S b → S' b) : Stp T' S' N Z m w N1 Z1 m1 w1 :=
  { h with mnew := fun o b hb => (h.mnew o b hb).imp id fun ⟨x, y⟩ => ⟨x, y.imp id fun ⟨o1, b1, t, u⟩ => ⟨o1, b1, hT o1 t, u⟩⟩, fr := fun b hb hc => h.fr b hb (hc.imp id fun ⟨x, y⟩ => ⟨fun o bb ho => x o bb (hT o ho), fun hs => y (hS b hs)⟩) }

/-- **A contract**: from any memory that the heap 'h' tells of, the call returns what 'K' says, and the heap behind it; objects outside 'T' are as they were. -/
def FnOK (P : Program) (f : FuncId) : Prop := ∃ fn, P.funcs[f]? = some fn ∧ (fn.name == "runtime.NumGoroutine") = false ∧ fn.body.isNone = false

def C (P : Program) (T : Nat → Prop) (f : FuncId) (args : List AV) (h : Heap) (K : AV → Heap → Prop) : Prop :=
  FnOK P f ∧ ∀ (N : Nat) (Z : Nat → Prop) (m : Nat → Option Blk) (w : World) (vals : Array Value), RelH N Z m h w → vals.size = args.length →
    (∀ (i : Nat) (x : AV) (v : Value), args[i]? = some x → vals[i]? = some v → VA N Z m (fun _ => none) w x v) →
    Calls P f vals w fun e w' => ∃ v r h' N' Z' m', e = .returned v ∧ K r h' ∧ AV.clean r = true ∧ RelH N' Z' m' h' w' ∧ VA N' Z' m' (fun _ => none) w' r v ∧
      Stp T (fun _ => False) N Z m w N' Z' m' w'

theorem C.mono {P : Program} {T T' : Nat → Prop} {f : FuncId} {args : List AV} {h : Heap} {K K' : AV → Heap → Prop} (hc : C P T f args h K) (hT : ∀ o, T o → T' o) (hK : ∀ r h', K r h' → K' r h') :
    C P T' f args h K' := ⟨hc.1, fun N Z m w vals r hs ha =>
  (hc.2 N Z m w vals r hs ha).mono fun _ _ ⟨v, r, h', N', Z', m', h1, h2, h3, h4, h5, h6⟩ => ⟨v, r, h', N', Z', m', h1, hK _ _ h2, h3, h4, h5, h6.weaken hT fun _ h => h⟩⟩

/-- The same of a piece of code, within a call that began in the heap 'h0' and may turn objects of 'T' and those of its own. -/
def R (T : Nat → Prop) (N0 : Nat) (Z0 : Nat → Prop) (m0 : Nat → Option Blk) (w0 : World) (s : St) (a : Act) (w : World) : Prop :=
  ∃ N Z m ml, RR w0.heap.size N Z m ml s a w ∧ Stp T (fun _ => False) N0 Z0 m0 w0 N Z m w

def W (P : Program) (T : Nat → Prop) (h0 : Heap) (c : Code) (s : St) (Q : Exit → St → Prop) : Prop :=
  ∀ N0 Z0 m0 w0, RelH N0 Z0 m0 h0 w0 → ∀ a w, R T N0 Z0 m0 w0 s a w → c.wp P (fun x a' w' => ∃ s', Q x s' ∧ R T N0 Z0 m0 w0 s' a' w') a w

end Go.Proofs.Rv
