/-
  json's reader: value. Conditions: each contract's own.
-/
import Derived.Test.YtcmlppknfbndaaaDoorObj
namespace Go.Proofs.YtcmlppknfbndaaaDoor
open Go.RowKit Js

/-- What value holds behind the blanks. -/
structure ValIn (r b : Nat) (w : World) (l : List UInt8) (wr : World) : Prop where
  rd : Rd wr r b l
  res : Five wr w.heap.size (.int .u8 0) (.int .i64 0) (.string ⟨#[]⟩) (.slice none 0 0) (.slice none 0 0)
  kept : Kept w.heap.size r w wr
  size : w.heap.size + 1 ≤ wr.heap.size
  env : Env wr
theorem ValIn.on {r b : Nat} {w wr w' : World} {l l' : List UInt8} (h : ValIn r b w l wr) (k : Kept wr.heap.size r wr w') (hr : r < w.heap.size) (hg : NG ≤ r) (hR : Rd w' r b l') : ValIn r b w l' w' :=
  have hs := h.size
  ⟨hR, h.res.kept k (by omega), h.kept.trans (k.mono (by omega)), by have := k.size; omega, h.env.kept k hg⟩
/-- A value without kids. -/
theorem at_leaf (w : World) (ok : Nat → Prop) (k n : Int) (t : List UInt8) : VAt w ok (.mk k n t [] []) [.int .u8 k, .int .i64 n, strv t, .slice none 0 0, .slice none 0 0] :=
  ⟨_, _, [], rfl, rfl, RowAt.nil _ _, RowAt.nil _ _⟩
theorem value_nil (f : Nat) (n : Int) (l : List UInt8) (h : blanks l = []) : value (f + 1) n l = .err 5 := by unfold value; rw [h]
theorem value_cons (f : Nat) (n : Int) (l : List UInt8) (c : UInt8) (r : List UInt8) (h : blanks l = c :: r) : value (f + 1) n l =
      if c = 110 then (match word [110, 117, 108, 108] (c :: r) with | .err e => .err e | .ok _ l => .ok nul l)
      else if c = 116 then (match word [116, 114, 117, 101] (c :: r) with | .err e => .err e | .ok _ l => .ok (.mk 1 1 [] [] []) l)
      else if c = 102 then (match word [102, 97, 108, 115, 101] (c :: r) with | .err e => .err e | .ok _ l => .ok (.mk 1 0 [] [] []) l)
      else if c = 34 then (match text (c :: r) with | .err e => .err e | .ok s l => .ok (.mk 3 0 s [] []) l)
      else if c = 91 then (if n = 8 then .err 6 else list f (n + 1) r)
      else if c = 123 then (if n = 8 then .err 6 else object f (n + 1) r)
      else (match number (c :: r) with | .err e => .err e | .ok n l => .ok (.mk 2 n [] [] []) l) := by
  conv => lhs; unfold value
  rw [h]
  rfl
theorem ne_beq {c d : UInt8} (h : c ≠ d) (k : Int) (hd : (d.toNat : Int) = k) : ((c.toNat : Int) == k) = false := by
  rw [beq_eq_false_iff_ne]
  intro e
  exact h (UInt8.toNat_inj.1 (by omega))

set_option maxHeartbeats 8000000 in
set_option maxRecDepth 100000 in
theorem value_hb (f : Nat) (hv : ∀ g, g < f → ValueOk g) (r b : Nat) (n : Int) (l : List UInt8) (w : World) (hn0 : 0 ≤ n) (hn8 : n ≤ 8) (h : Rd w r b l) (hE : Env w) (hr : NG ≤ r) (hL : l.length ≤ 1099511627776) (hf : 3 * l.length < f) (hb : b < w.heap.size) :
    Calls Tryd.prog 16 #[.pointer (some ⟨r, 0, none⟩), .int .i64 n] w (ValPost r b w (value f n l)) := by
  obtain ⟨R, hR⟩ : ∃ R, value f n l = R := ⟨_, rfl⟩
  rw [hR]
  obtain ⟨f, rfl⟩ : ∃ g, f = g + 1 := ⟨f - 1, by omega⟩
  have HLIST := Lib.hid (list_of f (fun g hg => hv g (by omega)))
  have HOBJ := Lib.hid (object_of f (fun g hg => hv g (by omega)))
  have hrw := h.lt
  have HRW := Lib.hid hrw
  have HB := Lib.hid hb
  have HR := Lib.hid hR
  have hB2 : Below w.heap.size w (w.alloc (Obj.cells #[Value.int IntKind.u8 0, Value.int IntKind.i64 0, Value.string { data := #[] }, Value.slice none 0 0, Value.slice none 0 0] 27)) := (Below.refl _ _).alloc (Nat.le_refl _) _
  have hI0 : ValIn r b w l (w.alloc (Obj.cells #[Value.int IntKind.u8 0, Value.int IntKind.i64 0, Value.string { data := #[] }, Value.slice none 0 0, Value.slice none 0 0] 27)) :=
    ⟨h.below hB2, heap_alloc_new w _, Kept.of_below hB2, by simp, hE.below hB2 hE.size⟩
  have HI0 := Lib.hid hI0
  have hwrap : IntKind.i64.wrap (n + 1) = n + 1 ∨ n = 8 := by
    rcases Int.lt_or_eq_of_le hn8 with h' | h'
    · left
      have e : n = 0 ∨ n = 1 ∨ n = 2 ∨ n = 3 ∨ n = 4 ∨ n = 5 ∨ n = 6 ∨ n = 7 := by omega
      rcases e with rfl | rfl | rfl | rfl | rfl | rfl | rfl | rfl <;> decide
    · exact .inr h'
  have HWR := Lib.hid hwrap
  clear hR h hE hB2 hv hb hI0 hwrap
  go_enter Tryd.func16, Tryd.ntmps16
  go_wp2_with fail
  generalize (w.alloc (Obj.cells #[Value.int IntKind.u8 0, Value.int IntKind.i64 0, Value.string { data := #[] }, Value.slice none 0 0, Value.slice none 0 0] 27)) = w0 at *
  refine (blanks_any r b l w0 HI0.out.rd).mono ?_
  rintro e w1 ⟨rfl, hR1, hK1⟩
  have HI1 := Lib.hid (HI0.out.on hK1 hrw hr hR1)
  have hle := blanks_le l
  cases hm : blanks l with
  | nil =>
    have HF : Hid (R = .err 5) := by rw [← HR.out]; exact Lib.hid (value_nil f n l hm)
    rw [hm] at HI1
    clear HR hR1 hK1 HI0 hm
    obtain ⟨v, h1, h2, h3, h4⟩ := HI1.out.rd
    obtain ⟨p, c, rfl, hc⟩ := h4.nil
    clear h4
    go_wp2_with (first | (go_at_call 18; (with_reducible refine (need_f _).mono ?_); rintro e w' ⟨rfl, rfl⟩))
    exact ⟨rfl, ValPost.err HF.out ⟨rfl, HI1.out.kept⟩⟩
  | cons c l1 =>
    have hv := value_cons f n l c l1 hm
    rw [HR.out] at hv
    rw [hm] at HI1
    rw [hm] at hle
    clear HR hR1 hK1 HI0 hm
    obtain ⟨v, h1, h2, h3, h4⟩ := HI1.out.rd
    obtain ⟨o, cp, rfl, h5, h6, h7⟩ := h4.cons (by simp)
    have h8 := h7.head
    simp only [List.length_cons] at h1 h5 hle
    clear h4 h7
    by_cases c110 : c = 110
    · rw [if_pos c110] at hv
      have HV := Lib.hid hv
      subst c110
      clear hv
      go_wp2_with (first | (go_at_call 18; (with_reducible refine (need_t _).mono ?_); rintro e w' ⟨rfl, rfl⟩))
      clear h1 h2 h3 h5 h6 h8
      refine (word_any r b (110 :: l1) ⟨#[110, 117, 108, 108]⟩ w1 HI1.out.rd (by simp)).mono ?_
      intro e w2 hp
      cases hx : word [110, 117, 108, 108] (110 :: l1) with
      | err cc =>
        obtain ⟨rfl, hk⟩ := hp.get_err hx
        have HF : Hid (R = .err cc) := by have := HV.out; rw [hx] at this; exact this
        have HKF : Hid (Kept w.heap.size r w w2) := HI1.out.kept.trans (hk.mono (by have := HI1.out.size; omega))
        clear hx hp hk HV
        exact ⟨rfl, ValPost.err HF.out ⟨rfl, HKF.out⟩⟩
      | ok u l2 =>
        obtain ⟨rfl, hR2, hk⟩ := hp.get_ok hx
        have HF : Hid (R = .ok nul l2) := by have := HV.out; rw [hx] at this; exact this
        have hI2 := HI1.out.on hk hrw hr hR2
        obtain ⟨a0, a1, a2, a3, a4⟩ := hI2.res.cells
        obtain ⟨d0, d1, d2, d3, d4⟩ := hI2.res.free
        have HI2 := Lib.hid hI2
        clear hx hp hk HV hI2 hR2
        go_wp2
        refine bodyPost_ret (v := .agg #[.int .u8 0, .int .i64 0, .string ⟨#[]⟩, .slice none 0 0, .slice none 0 0]) (results_five Tryd.results16 rfl (HI2.out.res.put _ _ _ _ _)) rfl ?_
        exact val_ret HF.out HI2.out.res (Nat.le_refl _) (at_leaf _ _ _ _ _) HI2.out.rd HB.out HRW.out HI2.out.kept
    rw [if_neg c110] at hv
    have e110 := ne_beq c110 110 rfl
    by_cases c116 : c = 116
    · rw [if_pos c116] at hv
      have HV := Lib.hid hv
      subst c116
      clear hv
      go_wp2_with (first | (go_at_call 18; (with_reducible refine (need_t _).mono ?_); rintro e w' ⟨rfl, rfl⟩))
      clear h1 h2 h3 h5 h6 h8
      refine (word_any r b (116 :: l1) ⟨#[116, 114, 117, 101]⟩ w1 HI1.out.rd (by simp)).mono ?_
      intro e w2 hp
      cases hx : word [116, 114, 117, 101] (116 :: l1) with
      | err cc =>
        obtain ⟨rfl, hk⟩ := hp.get_err hx
        have HF : Hid (R = .err cc) := by have := HV.out; rw [hx] at this; exact this
        have HKF : Hid (Kept w.heap.size r w w2) := HI1.out.kept.trans (hk.mono (by have := HI1.out.size; omega))
        clear hx hp hk HV
        exact ⟨rfl, ValPost.err HF.out ⟨rfl, HKF.out⟩⟩
      | ok u l2 =>
        obtain ⟨rfl, hR2, hk⟩ := hp.get_ok hx
        have HF : Hid (R = .ok (.mk 1 1 [] [] []) l2) := by have := HV.out; rw [hx] at this; exact this
        have hI2 := HI1.out.on hk hrw hr hR2
        obtain ⟨a0, a1, a2, a3, a4⟩ := hI2.res.cells
        obtain ⟨d0, d1, d2, d3, d4⟩ := hI2.res.free
        have HI2 := Lib.hid hI2
        clear hx hp hk HV hI2 hR2
        go_wp2
        refine bodyPost_ret (v := .agg #[.int .u8 1, .int .i64 1, .string ⟨#[]⟩, .slice none 0 0, .slice none 0 0]) (results_five Tryd.results16 rfl (HI2.out.res.put _ _ _ _ _)) rfl ?_
        exact val_ret HF.out HI2.out.res (Nat.le_refl _) (at_leaf _ _ _ _ _) HI2.out.rd HB.out HRW.out HI2.out.kept
    rw [if_neg c116] at hv
    have e116 := ne_beq c116 116 rfl
    by_cases c102 : c = 102
    · rw [if_pos c102] at hv
      have HV := Lib.hid hv
      subst c102
      clear hv
      go_wp2_with (first | (go_at_call 18; (with_reducible refine (need_t _).mono ?_); rintro e w' ⟨rfl, rfl⟩))
      clear h1 h2 h3 h5 h6 h8
      refine (word_any r b (102 :: l1) ⟨#[102, 97, 108, 115, 101]⟩ w1 HI1.out.rd (by simp)).mono ?_
      intro e w2 hp
      cases hx : word [102, 97, 108, 115, 101] (102 :: l1) with
      | err cc =>
        obtain ⟨rfl, hk⟩ := hp.get_err hx
        have HF : Hid (R = .err cc) := by have := HV.out; rw [hx] at this; exact this
        have HKF : Hid (Kept w.heap.size r w w2) := HI1.out.kept.trans (hk.mono (by have := HI1.out.size; omega))
        clear hx hp hk HV
        exact ⟨rfl, ValPost.err HF.out ⟨rfl, HKF.out⟩⟩
      | ok u l2 =>
        obtain ⟨rfl, hR2, hk⟩ := hp.get_ok hx
        have HF : Hid (R = .ok (.mk 1 0 [] [] []) l2) := by have := HV.out; rw [hx] at this; exact this
        have hI2 := HI1.out.on hk hrw hr hR2
        obtain ⟨a0, a1, a2, a3, a4⟩ := hI2.res.cells
        obtain ⟨d0, d1, d2, d3, d4⟩ := hI2.res.free
        have HI2 := Lib.hid hI2
        clear hx hp hk HV hI2 hR2
        go_wp2
        refine bodyPost_ret (v := .agg #[.int .u8 1, .int .i64 0, .string ⟨#[]⟩, .slice none 0 0, .slice none 0 0]) (results_five Tryd.results16 rfl (HI2.out.res.put _ _ _ _ _)) rfl ?_
        exact val_ret HF.out HI2.out.res (Nat.le_refl _) (at_leaf _ _ _ _ _) HI2.out.rd HB.out HRW.out HI2.out.kept
    rw [if_neg c102] at hv
    have e102 := ne_beq c102 102 rfl
    by_cases c34 : c = 34
    · rw [if_pos c34] at hv
      have HV := Lib.hid hv
      subst c34
      clear hv
      go_wp2_with (first | (go_at_call 18; (with_reducible refine (need_t _).mono ?_); rintro e w' ⟨rfl, rfl⟩))
      clear h1 h2 h3 h5 h6 h8
      refine (text_any r b (34 :: l1) w1 HI1.out.rd HI1.out.env hr (by simp; omega)).mono ?_
      intro e w2 hp
      cases hx : text (34 :: l1) with
      | err cc =>
        obtain ⟨rfl, hk⟩ := hp.get_err hx
        have HF : Hid (R = .err cc) := by have := HV.out; rw [hx] at this; exact this
        have HKF : Hid (Kept w.heap.size r w w2) := HI1.out.kept.trans (hk.mono (by have := HI1.out.size; omega))
        clear hx hp hk HV
        exact ⟨rfl, ValPost.err HF.out ⟨rfl, HKF.out⟩⟩
      | ok u l2 =>
        obtain ⟨rfl, hR2, hk⟩ := hp.get_ok hx
        have HF : Hid (R = .ok (.mk 3 0 u [] []) l2) := by have := HV.out; rw [hx] at this; exact this
        have hI2 := HI1.out.on hk hrw hr hR2
        obtain ⟨a0, a1, a2, a3, a4⟩ := hI2.res.cells
        obtain ⟨d0, d1, d2, d3, d4⟩ := hI2.res.free
        have HI2 := Lib.hid hI2
        clear hx hp hk HV hI2 hR2
        unfold strv
        go_wp2
        refine bodyPost_ret (v := .agg #[.int .u8 3, .int .i64 0, .string ⟨u.toArray⟩, .slice none 0 0, .slice none 0 0]) (results_five Tryd.results16 rfl (HI2.out.res.put _ _ _ _ _)) rfl ?_
        exact val_ret HF.out HI2.out.res (Nat.le_refl _) (at_leaf _ _ _ _ _) HI2.out.rd HB.out HRW.out HI2.out.kept
    rw [if_neg c34] at hv
    have e34 := ne_beq c34 34 rfl
    by_cases c91 : c = 91
    · rw [if_pos c91] at hv
      subst c91
      by_cases hn : n = 8
      · rw [if_pos hn] at hv
        have HF := Lib.hid hv
        subst hn
        clear hv
        go_wp2_with (first | (go_at_call 18; (with_reducible refine (need_t _).mono ?_); rintro e w' ⟨rfl, rfl⟩))
        exact ⟨rfl, ValPost.err HF.out ⟨rfl, HI1.out.kept⟩⟩
      · rw [if_neg hn] at hv
        have HV := Lib.hid hv
        have hn8' : (n == (8 : Int)) = false := by rw [beq_eq_false_iff_ne]; exact hn
        have hwr : IntKind.i64.wrap (n + 1) = n + 1 := HWR.out.resolve_right hn
        have hn7 : n + 1 ≤ 8 := by omega
        clear hv hn
        go_wp2_with (first | (go_at_call 18; (with_reducible refine (need_t _).mono ?_); rintro e w' ⟨rfl, rfl⟩))
        clear h1 h2 h3 h5 h6 h8
        refine (is_t r b (91 :: l1) 91 w1 HI1.out.rd rfl).mono ?_
        rintro e w2 ⟨rfl, hR2, hK2⟩
        have HI2 := Lib.hid (HI1.out.on hK2 hrw hr hR2)
        clear hR2 hK2
        go_wp2_with fail
        refine (HLIST.out r b (n + 1) l1 w2 (by omega) hn7 HI2.out.rd HI2.out.env hr (by omega) (by omega)).mono ?_
        intro e w3 hp
        cases hx : list f (n + 1) l1 with
        | err cc =>
          obtain ⟨rfl, hk⟩ := hp.get_err hx
          have HF : Hid (R = .err cc) := by have := HV.out; rw [hx] at this; exact this
          have HKF : Hid (Kept w.heap.size r w w3) := HI2.out.kept.trans (hk.mono (by have := HI2.out.size; omega))
          clear hx hp hk HV
          exact ⟨rfl, ValPost.err HF.out ⟨rfl, HKF.out⟩⟩
        | ok v l2 =>
          obtain ⟨cs, rfl, hV, hR3, hk⟩ := hp.get_ok hx
          have HF : Hid (R = .ok v l2) := by have := HV.out; rw [hx] at this; exact this
          have hI3 := HI2.out.on hk hrw hr hR3
          have HV3 := Lib.hid (VAt.mono (ok' := fun k => w.heap.size ≤ k ∧ k < w3.heap.size ∧ k ≠ w.heap.size) (fun k hk' => by have := HI2.out.size; exact ⟨by omega, hk'.2, by omega⟩) _ _ hV)
          obtain ⟨p3, d3, p4, d4, hcs, _, _, _, _⟩ := hV.shape
          obtain ⟨a0, a1, a2, a3, a4⟩ := hI3.res.cells
          obtain ⟨d0, d1, d2, d3', d4'⟩ := hI3.res.free
          have HI3 := Lib.hid hI3
          clear hx hp hk HV hI3 hR3 hV
          simp only [strv] at hcs
          subst hcs
          go_wp2
          refine bodyPost_ret (v := .agg #[.int .u8 v.kind, .int .i64 v.num, .string ⟨v.text.toArray⟩, .slice p3 v.kids.length d3, .slice p4 v.names.length d4]) (results_five Tryd.results16 rfl (HI3.out.res.put _ _ _ _ _)) rfl ?_
          exact val_ret HF.out HI3.out.res (Nat.le_refl _) HV3.out HI3.out.rd HB.out HRW.out HI3.out.kept
    rw [if_neg c91] at hv
    have e91 := ne_beq c91 91 rfl
    by_cases c123 : c = 123
    · rw [if_pos c123] at hv
      subst c123
      by_cases hn : n = 8
      · rw [if_pos hn] at hv
        have HF := Lib.hid hv
        subst hn
        clear hv
        go_wp2_with (first | (go_at_call 18; (with_reducible refine (need_t _).mono ?_); rintro e w' ⟨rfl, rfl⟩))
        exact ⟨rfl, ValPost.err HF.out ⟨rfl, HI1.out.kept⟩⟩
      · rw [if_neg hn] at hv
        have HV := Lib.hid hv
        have hn8' : (n == (8 : Int)) = false := by rw [beq_eq_false_iff_ne]; exact hn
        have hwr : IntKind.i64.wrap (n + 1) = n + 1 := HWR.out.resolve_right hn
        have hn7 : n + 1 ≤ 8 := by omega
        clear hv hn
        go_wp2_with (first | (go_at_call 18; (with_reducible refine (need_t _).mono ?_); rintro e w' ⟨rfl, rfl⟩))
        clear h1 h2 h3 h5 h6 h8
        refine (is_f r b (123 :: l1) 91 w1 HI1.out.rd rfl).mono ?_
        rintro e w' ⟨rfl, rfl⟩
        go_wp2_with fail
        refine (word_any r b (123 :: l1) ⟨#[123]⟩ w1 HI1.out.rd (by simp)).mono ?_
        intro e w2 hp
        have hx : word [123] (123 :: l1) = .ok () l1 := rfl
        obtain ⟨rfl, hR2, hK2⟩ := hp.get_ok hx
        have HI2 := Lib.hid (HI1.out.on hK2 hrw hr hR2)
        clear hR2 hK2 hp hx
        go_wp2_with fail
        refine (HOBJ.out r b (n + 1) l1 w2 (by omega) hn7 HI2.out.rd HI2.out.env hr (by omega) (by omega)).mono ?_
        intro e w3 hp
        cases hx : object f (n + 1) l1 with
        | err cc =>
          obtain ⟨rfl, hk⟩ := hp.get_err hx
          have HF : Hid (R = .err cc) := by have := HV.out; rw [hx] at this; exact this
          have HKF : Hid (Kept w.heap.size r w w3) := HI2.out.kept.trans (hk.mono (by have := HI2.out.size; omega))
          clear hx hp hk HV
          exact ⟨rfl, ValPost.err HF.out ⟨rfl, HKF.out⟩⟩
        | ok v l2 =>
          obtain ⟨cs, rfl, hV, hR3, hk⟩ := hp.get_ok hx
          have HF : Hid (R = .ok v l2) := by have := HV.out; rw [hx] at this; exact this
          have hI3 := HI2.out.on hk hrw hr hR3
          have HV3 := Lib.hid (VAt.mono (ok' := fun k => w.heap.size ≤ k ∧ k < w3.heap.size ∧ k ≠ w.heap.size) (fun k hk' => by have := HI2.out.size; exact ⟨by omega, hk'.2, by omega⟩) _ _ hV)
          obtain ⟨p3, d3, p4, d4, hcs, _, _, _, _⟩ := hV.shape
          obtain ⟨a0, a1, a2, a3, a4⟩ := hI3.res.cells
          obtain ⟨d0, d1, d2, d3', d4'⟩ := hI3.res.free
          have HI3 := Lib.hid hI3
          clear hx hp hk HV hI3 hR3 hV
          simp only [strv] at hcs
          subst hcs
          go_wp2
          refine bodyPost_ret (v := .agg #[.int .u8 v.kind, .int .i64 v.num, .string ⟨v.text.toArray⟩, .slice p3 v.kids.length d3, .slice p4 v.names.length d4]) (results_five Tryd.results16 rfl (HI3.out.res.put _ _ _ _ _)) rfl ?_
          exact val_ret HF.out HI3.out.res (Nat.le_refl _) HV3.out HI3.out.rd HB.out HRW.out HI3.out.kept
    rw [if_neg c123] at hv
    have e123 := ne_beq c123 123 rfl
    have HV := Lib.hid hv
    clear hv
    go_wp2_with (first | (go_at_call 18; (with_reducible refine (need_t _).mono ?_); rintro e w' ⟨rfl, rfl⟩))
    clear h1 h2 h3 h5 h6 h8
    refine (number_any r b (c :: l1) w1 HI1.out.rd HI1.out.env (by simp; omega) (by simp)).mono ?_
    intro e w2 hp
    cases hx : number (c :: l1) with
    | err cc =>
      obtain ⟨rfl, hk⟩ := hp.get_err hx
      have HF : Hid (R = .err cc) := by have := HV.out; rw [hx] at this; exact this
      have HKF : Hid (Kept w.heap.size r w w2) := HI1.out.kept.trans (hk.mono (by have := HI1.out.size; omega))
      clear hx hp hk HV
      exact ⟨rfl, ValPost.err HF.out ⟨rfl, HKF.out⟩⟩
    | ok u l2 =>
      obtain ⟨rfl, hR2, hk⟩ := hp.get_ok hx
      have HF : Hid (R = .ok (.mk 2 u [] [] []) l2) := by have := HV.out; rw [hx] at this; exact this
      have hI2 := HI1.out.on hk hrw hr hR2
      obtain ⟨a0, a1, a2, a3, a4⟩ := hI2.res.cells
      obtain ⟨d0, d1, d2, d3, d4⟩ := hI2.res.free
      have HI2 := Lib.hid hI2
      clear hx hp hk HV hI2 hR2
      unfold i64v
      go_wp2
      refine bodyPost_ret (v := .agg #[.int .u8 2, .int .i64 u, .string ⟨#[]⟩, .slice none 0 0, .slice none 0 0]) (results_five Tryd.results16 rfl (HI2.out.res.put _ _ _ _ _)) rfl ?_
      exact val_ret HF.out HI2.out.res (Nat.le_refl _) (at_leaf _ _ _ _ _) HI2.out.rd HB.out HRW.out HI2.out.kept

theorem value_of : ∀ f, ValueOk f := by
  intro f
  induction f using Nat.strongRecOn with
  | _ f ih =>
    intro r b n l w hn0 hn8 h hE hr hL hf
    cases l with
    | cons c l => exact value_hb f ih r b n (c :: l) w hn0 hn8 h hE hr hL hf (h.blt (by simp))
    | nil =>
      have h0 : Rd w r 0 [] := by
        obtain ⟨v, a1, a2, a3, p, c, rfl, h1, h2, _⟩ := h
        exact ⟨_, a1, a2, by have := NG_eq; omega, p, c, rfl, h1, h2, fun h => absurd rfl h⟩
      refine (value_hb f ih r 0 n [] w hn0 hn8 h0 hE hr hL hf (by have := hE.size; have := NG_eq; omega)).mono fun e w' hp => ?_
      obtain ⟨g, rfl⟩ : ∃ g, f = g + 1 := ⟨f - 1, by omega⟩
      have hx : value (g + 1) n [] = .err 5 := value_nil g n [] rfl
      exact ValPost.err hx (hp.get_err hx)
end Go.Proofs.YtcmlppknfbndaaaDoor
