/- RvMem2: the relation behind a store into an object, into a slot. -/
import Derived.Test.YtjnhijpophmmgaaRvMem
set_option linter.unusedVariables false
set_option linter.unusedSimpArgs false
namespace Go.Proofs.Rv
open Go

theorem setRow_size (w : World) (g : Nat) (cs : Array Value) : (w.setRow g cs).heap.size = w.heap.size := by simp [World.setRow]

section
variable {P : Program} {B0 N : Nat} {Z : Nat → Prop} {m : Nat → Option Blk} {ml : Nat → Option Nat} {w w' : World} {s : St} {a : Act}

theorem over_get {xs ys : List FV} {off : Nat} (h : off + ys.length ≤ xs.length) (i : Nat) : (over xs off ys)[i]? = if i < off then xs[i]? else if i < off + ys.length then ys[i - off]? else xs[i]? := by
  unfold over
  have l1 : (xs.take off).length = off := by simp; omega
  rw [List.getElem?_append, l1]
  by_cases h1 : i < off
  · rw [if_pos h1, if_pos h1, List.getElem?_take_of_lt h1]
  · rw [if_neg h1, if_neg h1, List.getElem?_append]
    by_cases h2 : i < off + ys.length
    · rw [if_pos h2, if_pos (by omega)]
    · rw [if_neg h2, if_neg (by omega), List.getElem?_drop]
      congr 1; omega

theorem length_over {xs ys : List FV} {off : Nat} (h : off + ys.length ≤ xs.length) : (over xs off ys).length = xs.length := by
  unfold over; simp; omega

/-- What lies in a row behind a store. -/
theorem row_store {xs ys : List FV} {cur : Array Value} {news : List Value} {off : Nat} (hx : ∀ (i : Nat) (x : FV), xs[i]? = some x → ∃ v, cur[i]? = some v ∧ VF N Z m w x v)
    (hl : xs.length ≤ cur.size) (hy : Row N Z m w ys news.toArray) (h : off + ys.length ≤ xs.length) :
    ∀ (i : Nat) (x : FV), (over xs off ys)[i]? = some x → ∃ v, (cur.toList.take off ++ news ++ cur.toList.drop (off + news.length)).toArray[i]? = some v ∧ VF N Z m w x v := by
  have hn : news.length = ys.length := by simpa using hy.1
  intro i x hi
  rw [over_get h] at hi
  simp only [List.getElem?_toArray]
  have l1 : (cur.toList.take off).length = off := by simp; omega
  rw [List.append_assoc, List.getElem?_append, l1]
  split at hi
  · rename_i h1
    obtain ⟨v, e1, e2⟩ := hx i x hi
    rw [if_pos h1, List.getElem?_take_of_lt h1]
    exact ⟨v, by simpa using e1, e2⟩
  · rename_i h1
    rw [if_neg h1, List.getElem?_append, hn]
    split at hi
    · rename_i h2
      rw [if_pos (by omega)]
      have hlt : i - off < news.length := by omega
      exact ⟨news[i - off], List.getElem?_eq_getElem hlt, hy.2 (i - off) x _ hi (by simp [hlt])⟩
    · rename_i h2
      rw [if_neg (by omega), List.getElem?_drop]
      obtain ⟨v, e1, e2⟩ := hx i x hi
      exact ⟨v, by rw [show off + ys.length + (i - off - ys.length) = i from by omega]; simpa using e1, e2⟩

theorem storeVar_run {L : LE} (hL : LayOK P L) {t : TypeId} {l : Lay} (hl : L t = some l) {b off : Nat} {cur : Array Value} {T : TypeId} (hb : w.heap[b]? = some (.cells cur T (0, 0))) {v : Value} {ys : List FV} (hy : Row N Z m w ys v.cells)
    (hn : ys.length = l.size) (hfit : off + ys.length ≤ cur.size) :
    (storeVar t ⟨b, off, none⟩ v).run P w = .ok () (w.setRow b (cur.toList.take off ++ v.cells.toList ++ cur.toList.drop (off + v.cells.toList.length)).toArray) := by
  have h1 : ∀ u ∈ v.cells.toList, u.oneCell' = true := fun u hu => by
    obtain ⟨i, hi⟩ := List.mem_iff_getElem?.1 hu
    have hlt : i < ys.length := by have := (List.getElem?_eq_some_iff.1 hi).1; have := hy.1; simp at *; omega
    exact (hy.2 i _ u (List.getElem?_eq_getElem hlt) (by simpa using hi)).oneCell
  have hsz : v.cells.toList.length = ys.length := by simpa using hy.1
  have hr := run_storeCells_at P b off T v.cells.toList 0 cur w hb (by omega) h1
  simp only [Nat.add_zero] at hr
  have hsz' : v.cells.size = l.size := by rw [hy.1, hn]
  simp [storeVar, run_size hL hl, hsz', hr]

/-- A block that is not frozen has turned. -/
theorem VF.blk {b : Nat} {cs : Array Value} (hz : ¬ Z b) {x : FV} {v : Value} (h : VF N Z m w x v) : VF N Z m (w.setRow b cs) x v :=
  h.mono (Nat.le_refl _) (fun _ h => h) (fun _ _ => .inl rfl) fun b' hb' => setRow_other w b b' cs (by rintro rfl; exact hz hb')

theorem setRow_grow (w : World) (b : Nat) (cs : Array Value) : (w.setRow b cs).os = w.os ∧ (w.setRow b cs).tape = w.tape ∧ (w.setRow b cs).output = w.output := ⟨rfl, rfl, rfl⟩

theorem RR.setObj (r : RR B0 N Z m ml s a w) {o : Nat} {ob : Obj} (ho : s.h o = some ob) (hro : ob.ro = false) {b : Blk} (hb : m o = some b) {cur : Array Value} (hc : w.heap[b.b]? = some (.cells cur ob.ty (0, 0)))
    {cells : List FV} {news : Array Value} (hs : news.size = cur.size) (hlen : cells.length ≤ news.size) (hrow : ∀ (i : Nat) (x : FV), cells[i]? = some x → ∃ v, news[i]? = some v ∧ VF N Z m w x v) :
    RR B0 N Z m ml { s with h := s.h.upd o { ob with cells := cells } } a (w.setRow b.b news) ∧ ∀ T S : Nat → Prop, T o → Stp T S N Z m w N Z m (w.setRow b.b news) := by
  obtain ⟨b', arr', h1, h2, h3, h4, h5, h6, h7, h8⟩ := r.H.obj o ob ho
  rw [hb] at h1; cases h1
  have hz : ¬ Z b.b := by rw [h8, hro]; simp
  rw [hc] at h4; cases h4
  have hnew : (w.setRow b.b news).heap[b.b]? = some (.cells news ob.ty (0, 0)) := setRow_heap w b.b cur news ob.ty _ hc
  refine ⟨⟨⟨fun p hp => ?_, fun p op hp => ?_, r.H.inj, fun c hc => by rw [setRow_size]; exact r.H.zlt c hc⟩, ⟨fun t cs ht => ?_, fun t c ht => ?_, r.L.inj⟩, ?_, by rw [setRow_size]; exact r.B⟩, fun T S hT => ?_⟩
  · simp only [Heap.upd] at hp
    split at hp
    · cases hp
    · exact r.H.non p hp
  · simp only [Heap.upd] at hp
    split at hp
    · rename_i e; subst e; cases hp
      exact ⟨b, news, hb, h2, h3, hnew, by rw [hs, h5], by rw [hs, h5] at hlen; exact hlen, fun i x hx => by obtain ⟨v, e1, e2⟩ := hrow i x hx; exact ⟨v, e1, e2.blk hz⟩, h8⟩
    · rename_i hne
      obtain ⟨c, arr2, g1, g2, g3, g4, g5, g6, g7, g8⟩ := r.H.obj p op hp
      have hcb : c.b ≠ b.b := fun e => hne (r.H.inj p o c b g1 hb e)
      refine ⟨c, arr2, g1, g2, g3, by rw [setRow_other w b.b c.b news hcb]; exact g4, g5, g6, fun i x hx => ?_, g8⟩
      obtain ⟨v, e1, e2⟩ := g7 i x hx; exact ⟨v, e1, e2.blk hz⟩
  · obtain ⟨c, arr2, T, g1, g2, g3, g4⟩ := r.L.sl t cs ht
    have hcb : c ≠ b.b := fun e => (r.L.dom t c g1).2.2.2.2 o b hb e.symm
    refine ⟨c, arr2, T, g1, by rw [setRow_other w b.b c news hcb]; exact g2, g3, fun i x hx => ?_⟩
    obtain ⟨v, e1, e2⟩ := g4 i x hx; exact ⟨v, e1, e2.blk hz⟩
  · obtain ⟨g1, g2, g3, g4⟩ := r.L.dom t c ht
    exact ⟨g1, g2, by rw [setRow_size]; exact g3, g4⟩
  · exact r.T.mono (Nat.le_refl _) (fun _ h => h) (fun _ _ => .inl rfl) (fun c hc => setRow_other w b.b c news (by rintro rfl; exact hz hc)) (fun _ _ h => h)
  · refine ⟨Nat.le_refl _, fun _ h => h, fun _ _ => .inl rfl, fun _ _ h => .inl h, fun _ h => .inl h, by rw [setRow_size]; exact Nat.le_refl _, fun c _ hc => ?_, rfl, rfl, rfl⟩
    refine setRow_other w b.b c news ?_
    rintro rfl
    rcases hc with hc | ⟨hc, _⟩
    · exact hz hc
    · exact hc o b hT hb rfl

theorem RR.setSlot (r : RR B0 N Z m ml s a w) {t c : Nat} {cs : List FV} (ht : lkL s.loc t = some cs) (hc : ml t = some c) {cur : Array Value} {T : TypeId} (hb : w.heap[c]? = some (.cells cur T (0, 0)))
    {cells : List FV} {news : Array Value} (hs : news.size = cells.length) (hrow : ∀ (i : Nat) (x : FV), cells[i]? = some x → ∃ v, news[i]? = some v ∧ VF N Z m w x v) {loc' : List (Nat × List FV)}
    (hl : ∀ u, lkL loc' u = if u = t then some cells else lkL s.loc u) :
    RR B0 N Z m ml { s with loc := loc' } a (w.setRow c news) ∧ ∀ T S : Nat → Prop, S c → Stp T S N Z m w N Z m (w.setRow c news) := by
  obtain ⟨d1, d2, d3, hz, d5⟩ := r.L.dom t c hc
  have hnew : (w.setRow c news).heap[c]? = some (.cells news T (0, 0)) := setRow_heap w c cur news T _ hb
  refine ⟨⟨⟨r.H.non, fun p op hp => ?_, r.H.inj, fun c' hc' => by rw [setRow_size]; exact r.H.zlt c' hc'⟩, ⟨fun u cs' hu => ?_, fun u c' hu => ?_, r.L.inj⟩, ?_, by rw [setRow_size]; exact r.B⟩, fun T S hS => ?_⟩
  · obtain ⟨e, arr2, g1, g2, g3, g4, g5, g6, g7, g8⟩ := r.H.obj p op hp
    refine ⟨e, arr2, g1, g2, g3, by rw [setRow_other w c e.b news (d5 p e g1)]; exact g4, g5, g6, fun i x hx => ?_, g8⟩
    obtain ⟨v, e1, e2⟩ := g7 i x hx; exact ⟨v, e1, e2.blk hz⟩
  · rw [hl] at hu
    split at hu
    · rename_i e; subst e; cases hu
      exact ⟨c, news, T, hc, hnew, hs, fun i x hx => by obtain ⟨v, e1, e2⟩ := hrow i x hx; exact ⟨v, e1, e2.blk hz⟩⟩
    · rename_i hne
      obtain ⟨c', arr2, T', g1, g2, g3, g4⟩ := r.L.sl u cs' hu
      have hcc : c' ≠ c := fun e => hne (r.L.inj u t c' g1 (e ▸ hc))
      refine ⟨c', arr2, T', g1, by rw [setRow_other w c c' news hcc]; exact g2, g3, fun i x hx => ?_⟩
      obtain ⟨v, e1, e2⟩ := g4 i x hx; exact ⟨v, e1, e2.blk hz⟩
  · obtain ⟨⟨cs0, g1⟩, g2, g3, g4⟩ := r.L.dom u c' hu
    refine ⟨?_, g2, by rw [setRow_size]; exact g3, g4⟩
    rw [hl]
    split
    · exact ⟨_, rfl⟩
    · exact ⟨cs0, g1⟩
  · exact r.T.mono (Nat.le_refl _) (fun _ h => h) (fun _ _ => .inl rfl) (fun c' hc' => setRow_other w c c' news (by rintro rfl; exact hz hc')) (fun _ _ h => h)
  · refine ⟨Nat.le_refl _, fun _ h => h, fun _ _ => .inl rfl, fun _ _ h => .inl h, fun _ h => .inl h, by rw [setRow_size]; exact Nat.le_refl _, fun c' _ hc' => ?_, rfl, rfl, rfl⟩
    refine setRow_other w c c' news ?_
    rintro rfl
    rcases hc' with hc' | ⟨_, hc'⟩
    · exact hz hc'
    · exact hc' hS

end

end Go.Proofs.Rv
