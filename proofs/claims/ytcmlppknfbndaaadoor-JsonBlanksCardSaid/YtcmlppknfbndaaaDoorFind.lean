/-
  slices.ContainsFunc over values, with may's closure. Conditions: each contract's own.
-/
import Derived.Test.YtcmlppknfbndaaaDoorBare
namespace Go.Proofs.YtcmlppknfbndaaaDoor
open Go.RowKit Js

/-- The five cells of the j-th. -/
theorem row_five {w : World} {g o : Nat} {css : List (List Value)} (h : CellsAt w g o css.flatten) (h5 : ∀ cs ∈ css, cs.length = 5) (j : Nat) (hj : j < css.length) (i : Nat) (u : Value) (hu : css[j][i]? = some u) :
    w.cell? ⟨g, o + j * 5 + i, none⟩ = some u := by
  have key : ∀ (css : List (List Value)) (j : Nat) (hj : j < css.length), (∀ cs ∈ css, cs.length = 5) → ∀ u, css[j][i]? = some u → css.flatten[j * 5 + i]? = some u := by
    intro css
    induction css with
    | nil => intro j hj; simp at hj
    | cons cs css ih =>
      intro j hj h5 u hu
      have hl : cs.length = 5 := h5 cs (by simp)
      cases j with
      | zero =>
        have hi : i < cs.length := by
          rcases Nat.lt_or_ge i cs.length with h | h
          · exact h
          · rw [List.getElem?_eq_none (by simpa using h)] at hu; cases hu
        simp only [List.flatten_cons, Nat.zero_mul, Nat.zero_add]
        rw [List.getElem?_append_left hi]
        simpa using hu
      | succ j =>
        simp only [List.flatten_cons]
        rw [List.getElem?_append_right (by omega), show (j + 1) * 5 + i - cs.length = j * 5 + i by omega]
        exact ih j (by simpa using hj) (fun cs h => h5 cs (by simp [h])) u (by simpa using hu)
  have := h (j * 5 + i) u (key css j hj h5 u hu)
  rw [show o + j * 5 + i = o + (j * 5 + i) by omega]
  exact this

theorem shape5 {cs : List Value} (h : cs.length = 5) : ∃ a b c d e, cs = [a, b, c, d, e] := by
  match cs, h with
  | [a, b, c, d, e], _ => exact ⟨a, b, c, d, e, rfl⟩

set_option maxHeartbeats 4000000 in
set_option maxRecDepth 100000 in
theorem index_any (np : Nat) (w : World) (css : List (List Value)) (bs : List Bool) (p : Option Addr) (c n : Nat) (hn : css.length = n) (hb : bs.length = n) (h63 : n ≤ 9223372036854775807) (_hnc : n ≤ c) (h5 : ∀ cs ∈ css, cs.length = 5)
    (hrow : n ≠ 0 → ∃ g o, p = some ⟨g, o, none⟩ ∧ g < w.heap.size ∧ CellsAt w g o css.flatten)
    (hcall : ∀ j (h1 : j < css.length) (h2 : j < bs.length) W, Below w.heap.size w W → Calls Tryd.prog 38 #[.agg css[j].toArray, .pointer (some ⟨np, 0, none⟩)] W fun e w' => e = .returned (.bool bs[j]) ∧ Below w.heap.size w w') :
    Calls Tryd.prog 54 #[.slice p n c, .func (.func 38) #[] #[.pointer (some ⟨np, 0, none⟩)]] w fun e w' => ∃ x : Int, e = .returned (.int .i64 x) ∧ decide (0 ≤ x) = bs.any id ∧ Below w.heap.size w w' := by
  have HROW := Lib.hid hrow
  have HCALL := Lib.hid hcall
  have HN := Lib.hid hn
  have HBN := Lib.hid hb
  have H5 := Lib.hid h5
  clear hrow hcall hn hb h5
  go_enter Tryd.func54, Tryd.ntmps54
  go_wp2
  go_loopg [5, 8] n (fun gg _ s8 wr => ∃ kk : Nat, kk ≤ n ∧ n - kk ≤ gg ∧ s8 = .int .i64 kk ∧ Hid (Below w.heap.size w wr) ∧ Hid (∀ j (h : j < bs.length), j < kk → bs[j] = false))
  case atStart => exact ⟨0, Nat.zero_le _, by omega, rfl, Lib.hid (Below.refl _ w), Lib.hid (fun j _ hj => absurd hj (Nat.not_lt_zero _))⟩
  case round =>
    obtain ⟨kk, hkk, hg, rfl, BW, A⟩ := hrel
    by_cases hlt : kk < n
    · have hltz : decide ((kk : Int) < (n : Int)) = true := by simp only [decide_eq_true_eq]; omega
      have h1 : kk < css.length := by rw [HN.out]; exact hlt
      have h2 : kk < bs.length := by rw [HBN.out]; exact hlt
      obtain ⟨g, o, rfl, hg', hcells⟩ := HROW.out (by omega)
      obtain ⟨a0, a1, a2, a3, a4, hsh⟩ := shape5 (H5.out _ (List.getElem_mem h1))
      have hc : ∀ i u, css[kk][i]? = some u → wr.cell? ⟨g, o + kk * 5 + i, none⟩ = some u := fun i u hu => by
        have := row_five hcells H5.out kk h1 i u hu
        exact (BW.out.cell (p := ⟨g, o + kk * 5 + i, none⟩) hg').trans this
      have hcl := HCALL.out kk h1 h2 wr BW.out
      rw [hsh] at hc hcl
      have c0 := hc 0 _ rfl
      have c1 := hc 1 _ rfl
      have c2 := hc 2 _ rfl
      have c3 := hc 3 _ rfl
      have c4 := hc 4 _ rfl
      simp only [Nat.add_zero] at c0
      obtain ⟨t, ht⟩ : ∃ t, bs[kk] = t := ⟨_, rfl⟩
      rw [ht] at hcl
      have HT := Lib.hid ht
      have HCL := Lib.hid hcl
      have HG := Lib.hid hg
      clear hc hcl ht hsh hcells hg' hg
      have hkn : kk < n := hlt
      go_wp2_with fail
      refine HCL.out.mono ?_
      rintro e w' ⟨rfl, hb'⟩
      have HB' := Lib.hid hb'
      clear hb' c0 c1 c2 c3 c4 HCL
      cases t with
      | true =>
        go_wp2
        go_ret
        refine ⟨kk, rfl, ?_, HB'.out⟩
        have : bs.any id = true := by
          rw [List.any_eq_true]
          exact ⟨bs[kk], List.getElem_mem h2, by rw [HT.out]; rfl⟩
        rw [this]
        simp
      | false =>
        have HA : Hid (∀ j (h : j < bs.length), j < kk + 1 → bs[j] = false) := Lib.hid (fun j hj hjk => by
          rcases Nat.lt_or_eq_of_le (Nat.le_of_lt_succ hjk) with h | h
          · exact A.out j hj h
          · subst h; exact HT.out)
        have hwr : IntKind.i64.wrap ((kk : Int) + 1) = ((kk + 1 : Nat) : Int) := by
          rw [show ((kk + 1 : Nat) : Int) = (kk : Int) + 1 by omega]
          exact wrap_small _ (by omega) (by omega)
        go_wp2
        go_roundg (n - (kk + 1))
        case measure => have := HG.out; omega
        case rel => exact ⟨kk + 1, by omega, Nat.le_refl _, rfl, HB', HA⟩
    · have hltz : decide ((kk : Int) < (n : Int)) = false := by simp only [decide_eq_false_iff_not]; omega
      go_wp2
      go_ret
      refine ⟨-1, rfl, ?_, BW.out⟩
      have : bs.any id = false := by
        rw [List.any_eq_false]
        intro x hx
        obtain ⟨j, hj, rfl⟩ := List.getElem_of_mem hx
        simp [A.out j hj (by have := HBN.out; omega)]
      rw [this]; rfl

theorem any_any (np : Nat) (w : World) (css : List (List Value)) (bs : List Bool) (p : Option Addr) (c n : Nat) (hn : css.length = n) (hb : bs.length = n) (h63 : n ≤ 9223372036854775807) (hnc : n ≤ c) (h5 : ∀ cs ∈ css, cs.length = 5)
    (hrow : n ≠ 0 → ∃ g o, p = some ⟨g, o, none⟩ ∧ g < w.heap.size ∧ CellsAt w g o css.flatten)
    (hcall : ∀ j (h1 : j < css.length) (h2 : j < bs.length) W, Below w.heap.size w W → Calls Tryd.prog 38 #[.agg css[j].toArray, .pointer (some ⟨np, 0, none⟩)] W fun e w' => e = .returned (.bool bs[j]) ∧ Below w.heap.size w w') :
    Calls Tryd.prog 37 #[.slice p n c, .func (.func 38) #[] #[.pointer (some ⟨np, 0, none⟩)]] w fun e w' => e = .returned (.bool (bs.any id)) ∧ Below w.heap.size w w' := by
  have H := Lib.hid (index_any np w css bs p c n hn hb h63 hnc h5 hrow hcall)
  clear hrow hcall hn hb h5
  go_enter Tryd.func37, Tryd.ntmps37
  go_wp2_with fail
  refine H.out.mono ?_
  rintro e w' ⟨x, rfl, hx, hb'⟩
  have HX := Lib.hid hx
  clear hx
  go_wp2
  go_ret
  exact ⟨by rw [← HX.out]; rfl, hb'⟩
end Go.Proofs.YtcmlppknfbndaaaDoor
