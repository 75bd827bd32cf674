/-
  WHAT A CALL LEAVES AS IT WAS, AND BYTES THAT LIE IN A BLOCK. Plain lemmas on worlds: no program is named. Conditions: none.
-/
import Derived.WalkKit
import Derived.WalkSpells
import Derived.WalkLawsBesides
namespace Go.Proofs.YtcmlppknfbndaaaDoor
open Go.RowKit

/-- Below block B, but for block r, the world is as it was. -/
structure Kept (B r : Nat) (w w' : World) : Prop where
  os : w'.os = w.os
  tape : w'.tape = w.tape
  output : w'.output = w.output
  size : w.heap.size ≤ w'.heap.size
  block : ∀ k, k < B → k ≠ r → w'.heap[k]? = w.heap[k]?

theorem Kept.refl (B r : Nat) (w : World) : Kept B r w w := ⟨rfl, rfl, rfl, Nat.le_refl _, fun _ _ _ => rfl⟩
theorem Kept.trans {B r : Nat} {a b c : World} (h : Kept B r a b) (k : Kept B r b c) : Kept B r a c :=
  ⟨k.os.trans h.os, k.tape.trans h.tape, k.output.trans h.output, Nat.le_trans h.size k.size, fun i hi hr => (k.block i hi hr).trans (h.block i hi hr)⟩
theorem Kept.mono {B B' r : Nat} {w w' : World} (h : Kept B r w w') (hB : B' ≤ B) : Kept B' r w w' := ⟨h.os, h.tape, h.output, h.size, fun k hk => h.block k (Nat.lt_of_lt_of_le hk hB)⟩
theorem Kept.then {B r : Nat} {a b c : World} (h : Kept B r a b) (k : Kept b.heap.size r b c) (hB : B ≤ b.heap.size) : Kept B r a c := h.trans (k.mono hB)
theorem Kept.on {r : Nat} {a b c : World} (h : Kept a.heap.size r a b) (k : Kept b.heap.size r b c) : Kept a.heap.size r a c := h.trans (k.mono h.size)
theorem Kept.of_below {B r : Nat} {w w' : World} (h : Below B w w') : Kept B r w w' := ⟨h.os, h.tape, h.output, h.size, fun k hk _ => h.block k hk⟩
theorem Kept.below {B B' r : Nat} {w w' : World} (h : Kept B r w w') (h1 : B' ≤ B) (h2 : B' ≤ r) : Below B' w w' := ⟨h.os, h.tape, h.output, h.size, fun k hk => h.block k (by omega) (by omega)⟩
theorem Kept.drew {B r : Nat} {a w : World} (h : Kept B r a w) : Kept B r a w.drew := ⟨h.os, h.tape, h.output, h.size, h.block⟩
theorem Kept.alloc {B r : Nat} {a w : World} (h : Kept B r a w) (hB : B ≤ w.heap.size) (o : Obj) : Kept B r a (w.alloc o) :=
  h.trans ⟨rfl, rfl, rfl, by simp, fun k hk _ => Below.heap_alloc _ _ _ (by omega)⟩
theorem Kept.setCell {B r : Nat} {a w : World} (h : Kept B r a w) {p : Addr} (hp : B ≤ p.block ∨ p.block = r) (u : Value) : Kept B r a (w.setCell p u) :=
  h.trans ⟨rfl, rfl, rfl, by simp [World.setCell], fun k hk _ => Below.heap_setCell _ _ _ _ (by omega)⟩
theorem Kept.cell {B r : Nat} {w w' : World} (h : Kept B r w w') {p : Addr} (hp : p.block < B) (hr : p.block ≠ r) : w'.cell? p = w.cell? p := World.cell?_of_block (w := w) (h.block p.block hp hr)
theorem Kept.frozen {B r : Nat} {w w' : World} (h : Kept B r w w') {p : Addr} (hp : p.block < B) (hr : p.block ≠ r) : w'.frozen? p = w.frozen? p := World.frozen?_of_block (w := w) (h.block p.block hp hr)

theorem Kept.store (B r : Nat) (w : World) (v : Value) : Kept B r w (w.setCell ⟨r, 0, none⟩ v) := (Kept.refl B r w).setCell (p := ⟨r, 0, none⟩) (Or.inr rfl) v

/-- A cell that is there lies below the heap's size. -/
theorem cell_lt {w : World} {b o : Nat} {v : Value} (h : w.cell? ⟨b, o, none⟩ = some v) : b < w.heap.size := World.block_lt_of_cell? w _ h

/-- The bytes l stand from place o of block b on. -/
def Bytes (w : World) (b o : Nat) (l : List UInt8) : Prop := ∀ i, i < l.length → w.cell? ⟨b, o + i, none⟩ = some (.int .u8 (l.getD i 0).toNat)

theorem Bytes.nil (w : World) (b o : Nat) : Bytes w b o [] := fun _ hi => absurd hi (Nat.not_lt_zero _)
theorem Bytes.head {w : World} {b o : Nat} {c : UInt8} {l : List UInt8} (h : Bytes w b o (c :: l)) : w.cell? ⟨b, o, none⟩ = some (.int .u8 c.toNat) := h 0 (by simp)
theorem Bytes.drop {w : World} {b o : Nat} {l : List UInt8} (h : Bytes w b o l) (k : Nat) : Bytes w b (o + k) (l.drop k) := fun i hi => by
  simp only [List.length_drop] at hi
  have := h (k + i) (by omega)
  rw [show o + k + i = o + (k + i) by omega, this]
  simp [List.getD, List.getElem?_drop]
theorem Bytes.tail {w : World} {b o : Nat} {c : UInt8} {l : List UInt8} (h : Bytes w b o (c :: l)) : Bytes w b (o + 1) l := h.drop 1
theorem Bytes.take {w : World} {b o : Nat} {l : List UInt8} (h : Bytes w b o l) (k : Nat) : Bytes w b o (l.take k) := fun i hi => by
  simp only [List.length_take] at hi
  rw [h i (by omega)]
  simp [List.getD, show i < k by omega]
theorem Bytes.lt {w : World} {b o : Nat} {l : List UInt8} (h : Bytes w b o l) (hl : l ≠ []) : b < w.heap.size := by
  cases l with
  | nil => exact absurd rfl hl
  | cons c l => exact cell_lt h.head
theorem Bytes.same {w w' : World} {b o : Nat} {l : List UInt8} (h : Bytes w b o l) (hb : l ≠ [] → w'.heap[b]? = w.heap[b]?) : Bytes w' b o l := fun i hi => by
  have hne : l ≠ [] := by intro e; subst e; exact absurd hi (Nat.not_lt_zero _)
  rw [World.cell?_of_block (w := w) (a := ⟨b, o + i, none⟩) (hb hne)]
  exact h i hi
theorem Bytes.kept {B r : Nat} {w w' : World} {b o : Nat} {l : List UInt8} (h : Bytes w b o l) (k : Kept B r w w') (hB : w.heap.size ≤ B) (hr : b ≠ r) : Bytes w' b o l :=
  h.same fun hne => k.block b (Nat.lt_of_lt_of_le (h.lt hne) hB) hr
theorem Bytes.below {B : Nat} {w w' : World} {b o : Nat} {l : List UInt8} (h : Bytes w b o l) (k : Below B w w') (hb : b < B) : Bytes w' b o l := h.same fun _ => k.block b hb

/-- v is a slice of bytes that reads as l; where it has a byte, its cells lie in block b. -/
def Slice (w : World) (b : Nat) (v : Value) (l : List UInt8) : Prop :=
  ∃ p c, v = .slice p l.length c ∧ l.length ≤ c ∧ c ≤ 9223372036854775807 ∧ (l ≠ [] → ∃ o, p = some ⟨b, o, none⟩ ∧ Bytes w b o l)

theorem Slice.same {w w' : World} {b : Nat} {v : Value} {l : List UInt8} (h : Slice w b v l) (hb : l ≠ [] → w'.heap[b]? = w.heap[b]?) : Slice w' b v l := by
  obtain ⟨p, c, rfl, h1, h2, h3⟩ := h
  exact ⟨p, c, rfl, h1, h2, fun hne => by obtain ⟨o, e, k⟩ := h3 hne; exact ⟨o, e, k.same hb⟩⟩
theorem Slice.lt {w : World} {b : Nat} {v : Value} {l : List UInt8} (h : Slice w b v l) (hl : l ≠ []) : b < w.heap.size := by
  obtain ⟨p, c, rfl, h1, h2, h3⟩ := h
  obtain ⟨o, e, k⟩ := h3 hl
  exact k.lt hl
theorem Slice.kept {B r : Nat} {w w' : World} {b : Nat} {v : Value} {l : List UInt8} (h : Slice w b v l) (k : Kept B r w w') (hB : w.heap.size ≤ B) (hr : b ≠ r) : Slice w' b v l :=
  h.same fun hne => k.block b (Nat.lt_of_lt_of_le (h.lt hne) hB) hr
theorem Slice.below {B : Nat} {w w' : World} {b : Nat} {v : Value} {l : List UInt8} (h : Slice w b v l) (k : Below B w w') (hb : b < B) : Slice w' b v l := h.same fun _ => k.block b hb
/-- A slice with a byte, written out. -/
theorem Slice.cons {w : World} {b : Nat} {v : Value} {l : List UInt8} (h : Slice w b v l) (hl : l ≠ []) : ∃ o c, v = .slice (some ⟨b, o, none⟩) l.length c ∧ l.length ≤ c ∧ c ≤ 9223372036854775807 ∧ Bytes w b o l := by
  obtain ⟨p, c, rfl, h1, h2, h3⟩ := h
  obtain ⟨o, rfl, k⟩ := h3 hl
  exact ⟨o, c, rfl, h1, h2, k⟩
theorem Slice.nil {w : World} {b : Nat} {v : Value} (h : Slice w b v []) : ∃ p c, v = .slice p 0 c ∧ c ≤ 9223372036854775807 := by
  obtain ⟨p, c, rfl, h1, h2, h3⟩ := h
  exact ⟨p, c, rfl, h2⟩
theorem Slice.shape {w : World} {b : Nat} {v : Value} {l : List UInt8} (h : Slice w b v l) (n : Nat) (hn : l.length = n) : ∃ p c, v = .slice p n c ∧ n ≤ c ∧ c ≤ 9223372036854775807 := by
  obtain ⟨p, c, rfl, h1, h2, _⟩ := h
  exact ⟨p, c, by rw [hn], by omega, h2⟩
/-- From place k on: the address moves only where room is left behind it. -/
theorem Slice.from {w : World} {b o c : Nat} {l : List UInt8} (h : Bytes w b o l) (hl : l.length ≤ c) (hc : c ≤ 9223372036854775807) (k : Nat) (_hk : k ≤ l.length) (p : Option Addr) (hp : k < c → p = some ⟨b, o + k, none⟩) :
    Slice w b (.slice p (l.length - k) (c - k)) (l.drop k) := by
  refine ⟨p, c - k, by simp, by simp; omega, by omega, fun hne => ?_⟩
  have hlt : k < l.length := by
    rcases Nat.lt_or_ge k l.length with h | h
    · exact h
    · exact absurd (List.drop_eq_nil_of_le h) hne
  exact ⟨o + k, hp (by omega), h.drop k⟩

/-- The reader of block r: its one cell holds a slice that reads as l. -/
def Rd (w : World) (r b : Nat) (l : List UInt8) : Prop := ∃ v, w.cell? ⟨r, 0, none⟩ = some v ∧ w.frozen? ⟨r, 0, none⟩ = false ∧ b ≠ r ∧ Slice w b v l
theorem Rd.lt {w : World} {r b : Nat} {l : List UInt8} (h : Rd w r b l) : r < w.heap.size := by obtain ⟨v, h1, _⟩ := h; exact cell_lt h1
theorem Rd.ne {w : World} {r b : Nat} {l : List UInt8} (h : Rd w r b l) : b ≠ r := by obtain ⟨v, _, _, h1, _⟩ := h; exact h1
/-- Behind what turns nothing that was there. -/
theorem Rd.below {w w' : World} {r b : Nat} {l : List UInt8} (h : Rd w r b l) (k : Below w.heap.size w w') : Rd w' r b l := by
  have hr := h.lt
  obtain ⟨v, h1, h2, h3, h4⟩ := h
  exact ⟨v, by rw [k.cell hr]; exact h1, by rw [k.frozen hr]; exact h2, h3, h4.same fun hne => k.block b (h4.lt hne)⟩
/-- Behind a store of another slice into its cell. -/
theorem Rd.store {w : World} {r b : Nat} {l l' : List UInt8} (h : Rd w r b l) {v : Value} (hv : Slice w b v l') : Rd (w.setCell ⟨r, 0, none⟩ v) r b l' := by
  obtain ⟨u, h1, h2, h3, h4⟩ := h
  refine ⟨v, ?_, ?_, h3, hv.same fun _ => Below.heap_setCell _ _ _ _ h3⟩
  · exact World.cell?_setCell_same _ _ _ h1
  · rw [World.frozen?_setCell]; exact h2
end Go.Proofs.YtcmlppknfbndaaaDoor
