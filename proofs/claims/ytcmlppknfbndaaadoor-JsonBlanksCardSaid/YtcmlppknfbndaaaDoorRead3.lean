/-
  json's reader: word, blanks. Conditions: each contract's own.
-/
import Derived.Test.YtcmlppknfbndaaaDoorRead2
namespace Go.Proofs.YtcmlppknfbndaaaDoor
open Go.RowKit Js

theorem below_bytesWorld (w : World) (e : TypeId) (s : ByteArray) : Below w.heap.size w (Lib.bytesWorld w e s) :=
  ⟨rfl, rfl, rfl, by rw [Lib.bytesWorld_size]; omega, fun k hk => Lib.bytesWorld_at_old w e s k hk⟩

/-- The numbers of bytes. -/
def ints (l : List UInt8) : List Int := l.map fun c => (c.toNat : Int)
theorem ints_length (l : List UInt8) : (ints l).length = l.length := by simp [ints]
theorem bytesOf_ints (l : List UInt8) : Lib.bytesOf (ints l) = l := by
  simp only [Lib.bytesOf, ints, List.map_map]
  conv => rhs; rw [← List.map_id l]
  refine List.map_congr_left fun c _ => ?_
  simp
theorem ints_getD (l : List UInt8) (i : Nat) : (ints l).getD i 0 = ((l.getD i 0).toNat : Int) := by
  simp only [ints, List.getD, List.getElem?_map]
  cases l[i]? <;> simp
theorem ints_range (l : List UInt8) : ∀ x ∈ ints l, 0 ≤ x ∧ x < 256 := by
  intro x hx
  simp only [ints, List.mem_map] at hx
  obtain ⟨c, _, rfl⟩ := hx
  have := c.toNat_lt
  omega
theorem bytesIn_of {w : World} {b o : Nat} {l : List UInt8} (h : Bytes w b o l) : Lib.BytesIn w (some ⟨b, o, none⟩) l.length (ints l) := fun _ =>
  ⟨b, o, rfl, fun i hi => by rw [h i hi, ints_getD]⟩
theorem bytesIn_slice {w : World} {b : Nat} {p : Option Addr} {l : List UInt8} (h : l ≠ [] → ∃ o, p = some ⟨b, o, none⟩ ∧ Bytes w b o l) : Lib.BytesIn w p l.length (ints l) := fun hl => by
  obtain ⟨o, rfl, k⟩ := h (by intro e; subst e; exact absurd hl (Nat.lt_irrefl _))
  exact bytesIn_of k (by omega)

theorem slice_trimPrefix {w : World} {b c : Nat} {p : Option Addr} {l : List UInt8} (h : l ≠ [] → ∃ o, p = some ⟨b, o, none⟩ ∧ Bytes w b o l) (hl : l.length ≤ c) (hc : c ≤ 9223372036854775807) (s : List UInt8) (hs : s ≠ []) (hp : s.isPrefixOf l = true) :
    Slice w b (Lib.trimPrefixV p l.length c (ints l) (ints s)) (l.drop s.length) := by
  obtain ⟨x, s, rfl⟩ : ∃ x t, s = x :: t := by cases s with
    | nil => exact absurd rfl hs
    | cons x t => exact ⟨x, t, rfl⟩
  have hle : (x :: s).length ≤ l.length := List.IsPrefix.length_le (List.isPrefixOf_iff_prefix.1 hp)
  have hne : l ≠ [] := by intro e; subst e; simp at hle
  obtain ⟨o, rfl, k⟩ := h hne
  have := Slice.from k hl hc (x :: s).length hle
  simp only [Lib.trimPrefixV, ints, List.map_cons]
  unfold Lib.bytesTrimPrefix Lib.sliceFrom
  have hb : Lib.hasPrefix (Lib.bytesOf (ints l)) (Lib.bytesOf (ints (x :: s))) = true := by rw [bytesOf_ints, bytesOf_ints]; exact hp
  simp only [ints, List.map_cons] at hb
  rw [if_pos hb]
  have h2 : ((x.toNat : Int) :: List.map (fun c => (c.toNat : Int)) s).length = (x :: s).length := by simp
  rw [h2]
  exact this _ (fun hlt => by rw [if_neg (by omega)])

theorem word_any (r b : Nat) (l : List UInt8) (s : ByteArray) (w : World) (h : Rd w r b l) (hs : s.data.toList ≠ []) :
    Calls Tryd.prog 25 #[.pointer (some ⟨r, 0, none⟩), .string s] w (Steps1 Unit (fun _ => .tuple #[]) r b w (word s.data.toList l)) := by
  have h0 := h
  have hr := h.lt
  obtain ⟨v, h1, h2, h3, p, c, rfl, h5, h6, h7⟩ := h
  have hrun := Lib.run_convert_string_bytes (P := Tryd.prog) w 9 22 5 s Tryd.underlying9 Tryd.underlying22 Tryd.underlying5
  have hB := below_bytesWorld w 5 s
  have h0' := h0.below hB
  obtain ⟨W, hW⟩ : ∃ W, Lib.bytesWorld w 5 s = W := ⟨_, rfl⟩
  have hc2 : Bytes W w.heap.size 0 s.data.toList := fun i hi => by rw [← hW, Nat.zero_add]; exact Lib.bytesWorld_cell w _ s i (by simpa using hi)
  rw [hW] at hrun hB h0'
  have i1 : Lib.BytesIn W p l.length (ints l) := bytesIn_slice fun hne => by
    obtain ⟨o, e, k⟩ := h7 hne
    exact ⟨o, e, k.same fun hne => hB.block b (k.lt hne)⟩
  have i2 := bytesIn_of hc2
  have cut := fun d => Tryd.bytes_CutPrefix_all p (some ⟨w.heap.size, 0, none⟩) l.length c s.data.toList.length d (ints l) (ints s.data.toList) W (ints_length _) (ints_length _) h5 i1 i2
  simp only [bytesOf_ints] at cut
  have hsz : s.data.toList.length = s.size := by simp
  rw [hsz] at cut
  have cellr : W.cell? ⟨r, 0, none⟩ = some (.slice p l.length c) := by rw [hB.cell hr]; exact h1
  have frr : W.frozen? ⟨r, 0, none⟩ = false := by rw [hB.frozen hr]; exact h2
  have hp : Lib.hasPrefix l s.data.toList = s.data.toList.isPrefixOf l := rfl
  rw [hp] at cut
  cases hpre : s.data.toList.isPrefixOf l with
  | false =>
    rw [hpre] at cut
    have hfin : word s.data.toList l = .err 5 := by simp [word, hpre]
    rw [hfin]
    have CUT := Lib.hid cut
    clear cut hW hc2 i1 i2 h7 hp hpre hfin hsz h0 h0'
    go_enter Tryd.func25, Tryd.ntmps25
    go_wp2_with (first | (go_at_call 39; refine (CUT.out _).mono ?_; rintro e w' ⟨rfl, rfl⟩) | (go_at_call 18; refine (need_f _).mono ?_; rintro e w' ⟨rfl, rfl⟩))
    exact ⟨rfl, rfl, Kept.of_below hB⟩
  | true =>
    rw [hpre] at cut
    have hfin : word s.data.toList l = .ok () (l.drop s.data.toList.length) := by simp [word, hpre]
    rw [hfin]
    have HS := Lib.hid (slice_trimPrefix (w := W) (fun hne => by
      obtain ⟨o, e, k⟩ := h7 hne
      exact ⟨o, e, k.same fun hne => hB.block b (k.lt hne)⟩) h5 h6 _ hs hpre)
    generalize Lib.trimPrefixV p l.length c (ints l) (ints s.data.toList) = tv at cut HS
    obtain ⟨p2, c2, rfl, _, _⟩ := HS.out.shape (l.length - s.size) (by simp)
    have CUT := Lib.hid cut
    have H0 := Lib.hid h0'
    clear cut hW hc2 i1 i2 h7 hp hpre hfin hsz h0 h0'
    go_enter Tryd.func25, Tryd.ntmps25
    go_wp2_with (first | (go_at_call 39; refine (CUT.out _).mono ?_; rintro e w' ⟨rfl, rfl⟩) | (go_at_call 18; refine (need_t _).mono ?_; rintro e w' ⟨rfl, rfl⟩))
    go_end0
    exact Steps1.ok rfl ⟨rfl, H0.out.store HS.out, (Kept.of_below hB).trans (Kept.store _ _ _ _)⟩

theorem dropWhile_eq_drop {α : Type} (p : α → Bool) : ∀ l : List α, l.dropWhile p = l.drop (l.length - (l.dropWhile p).length)
  | [] => rfl
  | a :: l => by
    cases h : p a with
    | false => simp [h]
    | true =>
      have ih := dropWhile_eq_drop p l
      have hle : (l.dropWhile p).length ≤ l.length := List.Sublist.length_le (List.dropWhile_sublist p)
      simp only [List.dropWhile_cons, h, if_true, List.length_cons]
      rw [show l.length + 1 - (l.dropWhile p).length = (l.length - (l.dropWhile p).length) + 1 by omega, List.drop_succ_cons]
      exact ih
theorem blanks_drop (l : List UInt8) : blanks l = l.drop (l.length - (blanks l).length) := dropWhile_eq_drop _ l
theorem blanks_le (l : List UInt8) : (blanks l).length ≤ l.length := List.Sublist.length_le (List.dropWhile_sublist _)

theorem slice_left {w : World} {b c : Nat} {p : Option Addr} {l : List UInt8} (h : l ≠ [] → ∃ o, p = some ⟨b, o, none⟩ ∧ Bytes w b o l) (hl : l.length ≤ c) (hc : c ≤ 9223372036854775807) :
    Slice w b (Lib.leftV p l.length c (l.length - (blanks l).length)) (blanks l) := by
  have hd := blanks_drop l
  have hle := blanks_le l
  generalize blanks l = m at hd hle ⊢
  unfold Lib.leftV
  by_cases hj : l.length - m.length = l.length
  · rw [if_pos hj]
    have hm : m = [] := by rw [hd, hj, List.drop_length]
    subst hm
    exact ⟨none, 0, rfl, by simp, by omega, fun h => absurd rfl h⟩
  · rw [if_neg hj]
    have hne : l ≠ [] := by intro e; subst e; simp at hj
    obtain ⟨o, rfl, k⟩ := h hne
    have := Slice.from k hl hc (l.length - m.length) (by omega)
    rw [← hd] at this
    refine this _ (fun hlt => ?_)
    rw [if_neg (by omega)]
    simp only [Option.map_some, Addr.add]
    split
    · rename_i h0; rw [h0]; rfl
    · rfl

theorem blanks_any (r b : Nat) (l : List UInt8) (w : World) (h : Rd w r b l) :
    Calls Tryd.prog 17 #[.pointer (some ⟨r, 0, none⟩)] w fun e w' => e = .returned (.tuple #[]) ∧ Rd w' r b (blanks l) ∧ Kept w.heap.size r w w' := by
  have hr := h.lt
  have H0 := Lib.hid h
  obtain ⟨v, h1, h2, h3, p, c, rfl, h5, h6, h7⟩ := h
  have i1 : Lib.BytesIn w p l.length (ints l) := bytesIn_slice h7
  have trim := Tryd.bytes_TrimLeft p l.length c (ints l) ⟨#[32, 9, 10, 13]⟩ w (ints_length _) h5 h6 i1 (ints_range l) (by decide) (fun j b hj => by
    have hm := List.mem_of_getElem? hj
    simp at hm
    rcases hm with rfl | rfl | rfl | rfl <;> decide)
  rw [bytesOf_ints] at trim
  change Calls Tryd.prog 31 _ _ (fun e w' => e = .returned (Lib.leftV p l.length c (l.length - (blanks l).length)) ∧ Below w.heap.size w w') at trim
  have hs := slice_left h7 h5 h6
  obtain ⟨p2, c2, hv, _, _⟩ := hs.shape (blanks l).length rfl
  rw [hv] at trim hs
  have HS := Lib.hid hs
  have TR := Lib.hid trim
  clear hs trim hv i1 h7
  go_enter Tryd.func17, Tryd.ntmps17
  go_wp2_with fail
  refine TR.out.mono ?_
  rintro e w1 ⟨rfl, hB⟩
  have hR := H0.out.below hB
  have HR := Lib.hid hR
  have hw1 : w1.cell? ⟨r, 0, none⟩ = some (.slice p l.length c) := by rw [hB.cell hr]; exact h1
  have hw2 : w1.frozen? ⟨r, 0, none⟩ = false := by rw [hB.frozen hr]; exact h2
  clear h1 h2 hR
  go_wp2
  go_end0
  exact ⟨rfl, HR.out.store (HS.out.same fun hne => hB.block b (HS.out.lt hne)), (Kept.of_below hB).trans (Kept.store _ _ _ _)⟩
end Go.Proofs.YtcmlppknfbndaaaDoor
