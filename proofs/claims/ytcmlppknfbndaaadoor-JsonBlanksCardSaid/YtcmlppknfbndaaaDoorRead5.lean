/-
  json's reader: escape at 'u', and escape as a whole. Conditions: each contract's own.
-/
import Derived.Test.YtcmlppknfbndaaaDoorRead4
namespace Go.Proofs.YtcmlppknfbndaaaDoor
open Go.RowKit Js

set_option maxHeartbeats 2000000 in
theorem escape_u (r b : Nat) (l : List UInt8) (w : World) (h : Rd w r b (117 :: l)) :
    Calls Tryd.prog 40 #[.pointer (some ⟨r, 0, none⟩)] w (Steps1 Int i32v r b w (escape (117 :: l))) := by
  have H0 := Lib.hid h
  obtain ⟨v, h1, h2, h3, h4⟩ := h
  obtain ⟨o, cap, rfl, h5, h6, h7⟩ := h4.cons (by simp)
  have h8 := h7.head
  obtain ⟨p, hrun, hs⟩ := run_from h7 h5 h6 1 (by simp) 1 rfl (l.length + 1) l.length (by simp) (by omega)
  simp only [List.length_cons, List.drop_one, List.tail_cons] at h1 h5 hs
  have hR1 := H0.out.store hs
  have hK1 := Kept.store w.heap.size r w (.slice p l.length (cap - 1))
  have HR1 := Lib.hid hR1
  have HK1 := Lib.hid hK1
  have HQ : Hid (Lib.indexByte [34, 92, 98, 102, 110, 114, 116] 117 = -1) := Lib.hid (by decide)
  clear h4 h7 hs hR1 hK1
  obtain ⟨R, hR⟩ : ∃ R, escape (117 :: l) = R := ⟨_, rfl⟩
  rw [hR]
  have HE : Hid ((match unit l with
        | .err e => .err e
        | .ok n r1 => if 55296 ≤ n ∧ n < 56320 then low n r1 else if isRune n then .ok n r1 else .err 5) = R) := hR
  clear hR
  go_enter Tryd.func40, Tryd.ntmps40
  go_wp2_with (first | (go_at_call 18; (with_reducible refine (need_t _).mono ?_); rintro e w' ⟨rfl, rfl⟩) | (go_at_call 51; refine (idx_any _ _ _ _ HQ.out).mono ?_; rintro e w' ⟨rfl, rfl⟩))
  refine (unit_any r b l _ HR1.out).mono ?_
  intro e w1 hu
  have hK2 := HK1.out
  generalize w.setCell ⟨r, 0, none⟩ (.slice p l.length (cap - 1)) = W1 at *
  clear h1 h2 h8 hrun HQ H0
  cases hx : unit l with
  | err c =>
    obtain ⟨rfl, hk⟩ := hu.get_err hx
    have HF : Hid (R = .err c) := by have := HE.out; rw [hx] at this; exact this.symm
    have HK := Lib.hid (HK1.out.trans (hk.mono HK1.out.size))
    clear HE hx hu hk hK2
    exact ⟨rfl, Steps1.err HF.out ⟨rfl, HK.out⟩⟩
  | ok n r1 =>
    obtain ⟨rfl, hR2, hk⟩ := hu.get_ok hx
    obtain ⟨n0, n1, hlen⟩ := unit_bound hx
    have HE2 : Hid ((if 55296 ≤ n ∧ n < 56320 then low n r1 else if isRune n then .ok n r1 else .err 5) = R) := by have := HE.out; rw [hx] at this; exact this
    have HK2 := Lib.hid (HK1.out.trans (hk.mono HK1.out.size))
    have HR2 := Lib.hid hR2
    clear HE hx hu hk hR2 hK2 hlen HR1 HK1
    unfold i32v
    by_cases hsur : 55296 ≤ n ∧ n < 56320
    · have HE3 : Hid (low n r1 = R) := by have := HE2.out; rw [if_pos hsur] at this; exact this
      obtain ⟨s0, s1⟩ := hsur
      have t1 : decide ((55296 : Int) ≤ n) = true := by simpa using s0
      have t2 : decide (n < (56320 : Int)) = true := by simpa using s1
      clear HE2
      go_wp2_with fail
      refine (word_any r b r1 ⟨#[92, 117]⟩ _ HR2.out (by decide)).mono ?_
      intro e w2 hw
      change Steps1 Unit (fun _ => .tuple #[]) r b w1 (word [92, 117] r1) e w2 at hw
      cases hx : word [92, 117] r1 with
      | err c =>
        obtain ⟨rfl, hk⟩ := hw.get_err hx
        have HF : Hid (R = .err c) := by have := HE3.out; unfold low at this; rw [hx] at this; exact this.symm
        have HK := Lib.hid (HK2.out.trans (hk.mono HK2.out.size))
        clear HE3 hx hw hk
        exact ⟨rfl, Steps1.err HF.out ⟨rfl, HK.out⟩⟩
      | ok x l1 =>
        obtain ⟨rfl, hR3, hk⟩ := hw.get_ok hx
        have HE4 : Hid ((match unit l1 with
            | .err e => .err e
            | .ok m l2 => if 56320 ≤ m ∧ m < 57344 then .ok (65536 + (n - 55296) * 1024 + m - 56320) l2 else .err 5) = R) := by have := HE3.out; unfold low at this; rw [hx] at this; exact this
        have HK3 := Lib.hid (HK2.out.trans (hk.mono HK2.out.size))
        have HR3 := Lib.hid hR3
        clear HE3 hx hw hk hR3 HK2 HR2
        go_wp2_with fail
        refine (unit_any r b l1 _ HR3.out).mono ?_
        intro e w3 hu
        cases hx : unit l1 with
        | err c =>
          obtain ⟨rfl, hk⟩ := hu.get_err hx
          have HF : Hid (R = .err c) := by have := HE4.out; rw [hx] at this; exact this.symm
          have HK := Lib.hid (HK3.out.trans (hk.mono HK3.out.size))
          clear HE4 hx hu hk
          exact ⟨rfl, Steps1.err HF.out ⟨rfl, HK.out⟩⟩
        | ok m l2 =>
          obtain ⟨rfl, hR4, hk⟩ := hu.get_ok hx
          obtain ⟨m0, m1, hlen⟩ := unit_bound hx
          have HE5 : Hid ((if 56320 ≤ m ∧ m < 57344 then .ok (65536 + (n - 55296) * 1024 + m - 56320) l2 else .err 5) = R) := by have := HE4.out; rw [hx] at this; exact this
          have HK4 := Lib.hid (HK3.out.trans (hk.mono HK3.out.size))
          have HR4 := Lib.hid hR4
          clear HE4 hx hu hk hR4 HK3 HR3 hlen
          unfold i32v
          by_cases hlow : 56320 ≤ m ∧ m < 57344
          · obtain ⟨q0, q1⟩ := hlow
            have HF : Hid (R = .ok (65536 + (n - 55296) * 1024 + m - 56320) l2) := by have := HE5.out; rw [if_pos ⟨q0, q1⟩] at this; exact this.symm
            have t3 : decide ((56320 : Int) ≤ m) = true := by simpa using q0
            have t4 : decide (m < (57344 : Int)) = true := by simpa using q1
            have HV : Hid (isRune (65536 + (n - 55296) * 1024 + m - 56320) = true) := by
              unfold isRune; exact Lib.hid (decide_eq_true (by omega))
            clear HE5
            go_wp2_with (first | (go_at_call 18; (with_reducible refine (need_t _).mono ?_); rintro e w' ⟨rfl, rfl⟩) | (go_at_call 57; refine (rune_any _ _ _ HV.out).mono ?_; rintro e w' ⟨rfl, rfl⟩))
            go_ret
            exact Steps1.ok HF.out ⟨rfl, HR4.out, HK4.out⟩
          · have HF : Hid (R = .err 5) := by have := HE5.out; rw [if_neg hlow] at this; exact this.symm
            clear HE5
            by_cases q0 : 56320 ≤ m
            · have t3 : decide ((56320 : Int) ≤ m) = true := by simpa using q0
              have t4 : decide (m < (57344 : Int)) = false := by simp; omega
              clear hlow
              go_wp2_with (first | (go_at_call 18; (with_reducible refine (need_f _).mono ?_); rintro e w' ⟨rfl, rfl⟩))
              exact ⟨rfl, Steps1.err HF.out ⟨rfl, HK4.out⟩⟩
            · have t3 : decide ((56320 : Int) ≤ m) = false := by simp; omega
              clear hlow
              go_wp2_with (first | (go_at_call 18; (with_reducible refine (need_f _).mono ?_); rintro e w' ⟨rfl, rfl⟩))
              exact ⟨rfl, Steps1.err HF.out ⟨rfl, HK4.out⟩⟩
    · have HE3 : Hid ((if isRune n then .ok n r1 else .err 5) = R) := by have := HE2.out; rw [if_neg hsur] at this; exact this
      clear HE2
      have hb : (decide ((55296 : Int) ≤ n) = false) ∨ (decide ((55296 : Int) ≤ n) = true ∧ decide (n < (56320 : Int)) = false) := by
        by_cases h : (55296 : Int) ≤ n
        · right; exact ⟨by simpa using h, by simp; omega⟩
        · left; simp; omega
      clear hsur
      cases hv : isRune n with
      | true =>
        have HV := Lib.hid hv
        have HF : Hid (R = .ok n r1) := by have := HE3.out; rw [hv, if_pos rfl] at this; exact this.symm
        clear HE3 hv
        rcases hb with t1 | ⟨t1, t2⟩
        all_goals
          go_wp2_with (first | (go_at_call 18; (with_reducible refine (need_t _).mono ?_); rintro e w' ⟨rfl, rfl⟩) | (go_at_call 57; refine (rune_any _ _ _ HV.out).mono ?_; rintro e w' ⟨rfl, rfl⟩))
          go_ret
          exact Steps1.ok HF.out ⟨rfl, HR2.out, HK2.out⟩
      | false =>
        have HV := Lib.hid hv
        have HF : Hid (R = .err 5) := by have := HE3.out; rw [hv, if_neg (by simp)] at this; exact this.symm
        clear HE3 hv
        rcases hb with t1 | ⟨t1, t2⟩
        all_goals
          go_wp2_with (first | (go_at_call 18; (with_reducible refine (need_f _).mono ?_); rintro e w' ⟨rfl, rfl⟩) | (go_at_call 57; refine (rune_any _ _ _ HV.out).mono ?_; rintro e w' ⟨rfl, rfl⟩))
          exact ⟨rfl, Steps1.err HF.out ⟨rfl, HK2.out⟩⟩

theorem escape_any (r b : Nat) (l : List UInt8) (w : World) (h : Rd w r b l) :
    Calls Tryd.prog 40 #[.pointer (some ⟨r, 0, none⟩)] w (Steps1 Int i32v r b w (escape l)) := by
  cases l with
  | nil => exact escape_nil r b w h
  | cons c l =>
    cases hn : letter c with
    | some n =>
      refine (escape_letter r b c l w h n hn).mono fun e w' h1 => ?_
      have : escape (c :: l) = .ok n l := by simp [escape, hn]
      rw [this]; exact h1
    | none =>
      by_cases hu : c = 117
      · subst hu; exact escape_u r b l w h
      · refine (escape_other r b c l w h hn hu).mono fun e w' h1 => ?_
        exact Steps1.err (by simp [escape, hn, hu]) h1
end Go.Proofs.YtcmlppknfbndaaaDoor
