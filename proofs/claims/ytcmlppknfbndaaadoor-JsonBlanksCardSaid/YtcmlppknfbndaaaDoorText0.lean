/-
  json's reader: small facts for the walk of text. Conditions: each lemma's own.
-/
import Derived.Test.YtcmlppknfbndaaaDoorRead5
import Derived.Lib.FrozenHead2
import Derived.Laws.BytesString
namespace Go.Proofs.YtcmlppknfbndaaaDoor
open Go.RowKit Js

theorem Rd.same {w w' : World} {r b : Nat} {l : List UInt8} (h : Rd w r b l) (h1 : w'.heap[r]? = w.heap[r]?) (h2 : l ≠ [] → w'.heap[b]? = w.heap[b]?) : Rd w' r b l := by
  obtain ⟨v, a1, a2, a3, a4⟩ := h
  exact ⟨v, by rw [World.cell?_of_block (w := w) (a := ⟨r, 0, none⟩) h1]; exact a1, by rw [World.frozen?_of_block (w := w) (a := ⟨r, 0, none⟩) h1]; exact a2, a3, a4.same h2⟩
theorem Rd.blt {w : World} {r b : Nat} {l : List UInt8} (h : Rd w r b l) (hl : l ≠ []) : b < w.heap.size := by
  obtain ⟨v, a1, a2, a3, a4⟩ := h
  exact a4.lt hl
theorem Rd.len {w : World} {r b : Nat} {l : List UInt8} (h : Rd w r b l) : l.length ≤ 9223372036854775807 := by
  obtain ⟨v, a1, a2, a3, p, c, _, h1, h2, _⟩ := h
  omega
theorem Kept.grownBy {r : Nat} {w w' : World} (h : Kept w.heap.size r w w') : w.grownBy w' (some r) :=
  ⟨h.os, h.tape, h.output, h.size, fun k hk hne => h.block k hk (fun e => hne (by rw [e]))⟩
theorem ownsF_kept {w w' : World} {B r : Nat} {e : TypeId} {size : Nat} {v : Value} {n : Nat} {xs : List Value} (h : w.ownsRowF B e size v n xs) (k : Kept w.heap.size r w w') (hr : r < B) : w'.ownsRowF B e size v n xs :=
  h.kept k.grownBy (by
    cases hv : v.ownBlock with
    | none => exact .inl rfl
    | some g => right; intro e; have := (h.lt g hv).1; simp at e; omega)
theorem Kept.grown {B r : Nat} {a w w' : World} {row : Option Nat} (h : Kept B r a w) (hg : w.grownBy w' row) (hB : B ≤ w.heap.size) (hr : ∀ k, row = some k → B ≤ k) : Kept B r a w' :=
  h.trans ⟨hg.os, hg.tape, hg.output, hg.size, fun k hk _ => hg.block k (by omega) (fun e => by have := hr k e.symm; omega)⟩

theorem info8 : (Tryd.prog.info? 5).map (fun i => (i.zero, i.size, i.bytes)) = some (some (.int .u8 0), 1, 1) := by kernel_rfl

/-- DecodeRune where there is nothing. -/
theorem decode_empty (p : Option Addr) (c : Nat) (w : World) :
    Calls Tryd.prog 42 #[.slice p 0 c] w fun e w' => e = .returned (.tuple #[.int .i32 65533, .int .i64 0]) ∧ w = w' := by
  go_enter Tryd.func42, Tryd.ntmps42
  go_wp2
  go_loop [8] (fun i => i = .int .i64 0) (fun _ => 0)
  case atStart => rfl
  case round =>
    subst hrel
    go_wp2
    go_ret2
    exact ⟨rfl, rfl⟩

theorem foldl_push (l : List Int) : ∀ s : ByteArray, l.foldl (fun r n => r.push (UInt8.ofNat n.toNat)) s = ⟨(s.data.toList ++ Lib.bytesOf l).toArray⟩ := by
  induction l with
  | nil => intro s; cases s; simp [Lib.bytesOf]
  | cons n l ih =>
    intro s
    simp only [List.foldl_cons]
    rw [ih]
    cases s
    simp [Lib.bytesOf, ByteArray.push]
/-- 'string(b)' -/
theorem run_string {w : World} {b : Nat} {v : Value} {l : List UInt8} (h : Slice w b v l) (w' : World) (hw : l ≠ [] → w'.heap[b]? = w.heap[b]?) :
    (convert 22 9 v).run Tryd.prog w' = .ok (.string ⟨l.toArray⟩) w' := by
  have h' := h.same hw
  obtain ⟨p, c, rfl, h1, h2, h3⟩ := h'
  rw [run_convert_bytes_string w' 22 9 5 p l.length c Tryd.underlying22 Tryd.underlying5 Tryd.underlying9]
  cases p with
  | none =>
    have : l = [] := by
      cases l with
      | nil => rfl
      | cons x l => obtain ⟨o, e, _⟩ := h3 (by simp); cases e
    subst this
    rfl
  | some a =>
    have hc : (loadCells a l.length).run Tryd.prog w' = .ok ((ints l).map (Value.int .u8)).toArray w' := by
      have := run_loadCells_list (P := Tryd.prog) w' a ((ints l).map (Value.int .u8)) (fun j v hj => by
        have hne : l ≠ [] := by intro e; subst e; simp [ints] at hj
        obtain ⟨o, e, k⟩ := h3 hne
        obtain rfl : a = ⟨b, o, none⟩ := Option.some.inj e
        have hjl : j < l.length := by
          have := (List.getElem?_eq_some_iff.1 hj).1
          simpa [ints] using this
        have hadd : (⟨b, o, none⟩ : Addr).add j = ⟨b, o + j, none⟩ := by unfold Addr.add; split <;> simp_all
        rw [hadd, k j hjl]
        simp only [ints, List.map_map, List.getElem?_map] at hj
        simp only [List.getD, List.getElem?_eq_getElem hjl, Option.map_some, Option.some.injEq, Option.getD_some] at hj ⊢
        exact hj)
      simpa [ints] using this
    rw [run_bytesToString w' a l.length c (ints l) hc, foldl_push]
    simp [bytesOf_ints]

theorem byteCells_get (l : List UInt8) (j : Nat) (u : Value) (h : (Lib.byteCells l)[j]? = some u) : j < l.length ∧ u = .int .u8 (l.getD j 0).toNat := by
  simp only [Lib.byteCells, List.getElem?_map] at h
  cases hj : l[j]? with
  | none => simp [hj] at h
  | some c =>
    have := (List.getElem?_eq_some_iff.1 hj).1
    simp only [hj, Option.map_some, Option.some.injEq] at h
    exact ⟨this, by simp [List.getD, hj, h]⟩
/-- What a call owns reads as a slice. -/
theorem slice_of_owned {w : World} {B : Nat} {v : Value} {l : List UInt8} (h : w.ownsRowF B 5 1 v l.length (Lib.byteCells l)) : ∃ b, Slice w b v l ∧ (l ≠ [] → B ≤ b) := by
  have hc := @World.ownsRowF.cells w B 5 1 v l.length (Lib.byteCells l) h
  rcases h.2 with ⟨rfl, hn⟩ | ⟨g, cap, cur, fz, rfl, hb, hg, hfz, hnc, hcm, hcs, htake⟩
  · have : l = [] := List.eq_nil_of_length_eq_zero hn
    subst this
    exact ⟨0, ⟨none, 0, rfl, by simp, by omega, fun h => absurd rfl h⟩, fun h => absurd rfl h⟩
  · refine ⟨g, ⟨some ⟨g, 0, none⟩, cap, rfl, hnc, by unfold maxLen at hcm; omega, fun _ => ⟨0, rfl, fun i hi => ?_⟩⟩, fun _ => hb⟩
    have := hc (g := g) rfl i (.int .u8 (l.getD i 0).toNat) (by simp [Lib.byteCells, List.getD, hi])
    rw [← this]
    unfold Addr.add
    split
    · rename_i h0; subst h0; rfl
    · rfl

theorem getBang (l : List UInt8) (j : Nat) : (ByteArray.mk l.toArray).get! j = l.getD j 0 := by
  show l.toArray[j]! = _
  simp [List.getD, getElem!_def]
  cases l[j]? <;> rfl
theorem decodeGo_eq (l : List UInt8) : Lib.decodeGo ⟨l.toArray⟩ = Js.decode l := by
  unfold Lib.decodeGo Js.decode
  have hs : (ByteArray.mk l.toArray).size = l.length := by simp [ByteArray.size]
  rw [hs]
  split
  · rfl
  · rw [Lib.decode_at]
    simp only [getBang, hs, Nat.sub_zero, Nat.zero_add]

/-- DecodeRune where there is a byte. -/
theorem decode_any (b o c : Nat) (l : List UInt8) (w : World) (h : Bytes w b o l) (hT : Lib.Utf8Tabs 0 1 w) :
    Calls Tryd.prog 42 #[.slice (some ⟨b, o, none⟩) l.length c] w fun e w' => e = .returned (.tuple #[.int .i32 (Js.decode l).1, .int .i64 (Js.decode l).2]) ∧ Below w.heap.size w w' := by
  have hs : (ByteArray.mk l.toArray).size = l.length := by simp [ByteArray.size]
  have := Tryd.utf8_DecodeRune ⟨l.toArray⟩ b o c w hT (fun j hj => by rw [getBang]; exact h j (by rw [hs] at hj; exact hj))
  rw [hs, decodeGo_eq] at this
  exact this

theorem utf8_cells (n : Int) (h : ∀ z ∈ Lib.encodeRuneZ n, 0 ≤ z ∧ z < 256) : Lib.runeCells n = Lib.byteCells (utf8 n) := by
  unfold Lib.runeCells Lib.byteCells utf8
  rw [List.map_map]
  refine List.map_congr_left fun z hz => ?_
  obtain ⟨h0, h1⟩ := h z hz
  simp only [Function.comp]
  have : (UInt8.ofNat z.toNat).toNat = z.toNat := by simp; omega
  rw [this]
  congr 1
  omega
theorem encode_range (n : Int) : (∀ z ∈ Lib.encodeRuneZ n, 0 ≤ z ∧ z < 256) ∧ (Lib.encodeRuneZ n).length ≤ 4 := by
  unfold Lib.encodeRuneZ
  repeat' split
  all_goals (refine ⟨?_, by simp⟩; intro z hz; simp at hz; omega)
end Go.Proofs.YtcmlppknfbndaaaDoor
