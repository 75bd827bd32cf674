/-
  The law JsonShort, walked. Conditions: each contract's own.
-/
import Derived.Test.YtcmlppknfbndaaaDoorWorks
import Derived.Test.YtcmlppknfbndaaaDoorLaw4
namespace Go.Proofs.YtcmlppknfbndaaaDoor
open Go.RowKit Js

mutual
theorem fitV_of : ∀ v : V, Fits v → FitV v
  | .mk _ _ _ ks _, h => ⟨h.1, h.2.1, h.2.2.1, h.2.2.2.1, fitAll_of ks h.2.2.2.2⟩
theorem fitAll_of : ∀ ks : List V, FitsAll ks → FitAll ks
  | [], _ => trivial
  | v :: r, h => ⟨fitV_of v h.1, fitAll_of r h.2⟩
end

/-- A value in a box of its own. -/
theorem box_new (w : World) (v : V) (p q : Option Addr) (c d : Nat) :
    Five (w.alloc (.cells #[.int .u8 v.kind, .int .i64 v.num, .string ⟨v.text.toArray⟩, .slice p v.kids.length c, .slice q v.names.length d] 27)) w.heap.size (.int .u8 v.kind) (.int .i64 v.num) (.string ⟨v.text.toArray⟩) (.slice p v.kids.length c) (.slice q v.names.length d) := heap_alloc_new w _

set_option maxHeartbeats 4000000 in
set_option maxRecDepth 100000 in
theorem json_short (b : Nat) (l : List UInt8) (bv : Value) (w : World) (hS : Slice w b bv l) (hb : b < w.heap.size) (hE : Env w) (hD : Deb w) :
    Calls Tryd.prog 3 #[bv] w fun e w' => e = .returned (.bool true) ∧ Below w.heap.size w w' := by
  have hS0 := hS
  obtain ⟨p0, c0, rfl, hlc, hcm, hp0⟩ := hS
  have HE := Lib.hid hE
  have HD := Lib.hid hD
  have HDL := Lib.hid (cell_lt hD)
  clear hE hD hp0
  by_cases hl : 8192 < l.length
  · have hl' : decide ((8192 : Int) < (l.length : Int)) = true := by simp only [decide_eq_true_eq]; omega
    clear hS0
    go_enter Tryd.func3, Tryd.ntmps3
    go_wp2_with (first | (go_at_call 6; refine (works_any _ HE.out HD.out).mono ?_; rintro e w1 ⟨rfl, hb1⟩; have HB1 := Lib.hid hb1; clear hb1))
    go_ret
    exact ⟨rfl, HB1.out⟩
  · have hl' : decide ((8192 : Int) < (l.length : Int)) = false := by simp only [decide_eq_false_iff_not]; omega
    have hP := parse_any b l _ w hS0 hb HE.out
    by_cases h0 : (parse l).2 = 0
    · obtain ⟨s1, s2, s3, s4⟩ := short_ok l (by omega) h0
      obtain ⟨v, hv⟩ : ∃ v, parse l = (v, 0) := ⟨(parse l).1, by rw [← h0]⟩
      rw [hv] at hP s1 s2 s3 s4
      obtain ⟨m, hm⟩ : ∃ m, put v = m := ⟨_, rfl⟩
      have hfit := fitV_of v s2
      have hpr : Js.print v = (m, 0) := by unfold Js.print; rw [if_pos s1, hm]
      have hne : m ≠ [] := by
        obtain ⟨c, r, e, _⟩ := put_head v 8 s1
        rw [← hm, e]; simp
      rw [hm] at s3
      have hpm : parse m = (v, 0) := by rw [← hm]; exact s4
      have hsame : same v v = true := same_refl v
      have HP := Lib.hid hP
      have HM1 := Lib.hid s1
      have HM3 := Lib.hid s3
      have HFIT := Lib.hid hfit
      have HPR := Lib.hid hpr
      have HNE := Lib.hid hne
      have HPM := Lib.hid hpm
      have HSAME := Lib.hid hsame
      have HPL : Hid (6 * (put v).length + 21 ≤ 140737488355328) := Lib.hid (by rw [hm]; omega)
      have HS0 := Lib.hid hS0
      clear hP s1 s2 s3 s4 hfit hpr hne hpm hsame hv h0 hm hS0 hl
      go_enter Tryd.func3, Tryd.ntmps3
      go_wp2_with fail
      refine HP.out.mono ?_
      rintro e w1 ⟨cs, rfl, hV, hb1⟩
      obtain ⟨p, c, q, d, hcs, _, _, _, _⟩ := hV.shape
      simp only [strv] at hcs
      subst hcs
      have HB1 := Lib.hid (hb1.alloc hb1.size (.cells #[.int .u8 v.kind, .int .i64 v.num, .string ⟨v.text.toArray⟩, .slice p v.kids.length c, .slice q v.names.length d] 27))
      have HBX := Lib.hid (box_new w1 v p q c d)
      have HZ1 : Hid ((w1.alloc (.cells #[.int .u8 v.kind, .int .i64 v.num, .string ⟨v.text.toArray⟩, .slice p v.kids.length c, .slice q v.names.length d] 27)).heap.size = w1.heap.size + 1) := Lib.hid (by simp)
      have HV1 := Lib.hid (VAt.mono (ok' := fun k => k < w1.heap.size) (fun k hk => hk.2) _ _ (VAt.same (w' := (w1.alloc (.cells #[.int .u8 v.kind, .int .i64 v.num, .string ⟨v.text.toArray⟩, .slice p v.kids.length c, .slice q v.names.length d] 27))) (fun k hk => Below.heap_alloc _ _ _ hk.2) _ _ hV))
      have hbx := HBX.out.cells
      obtain ⟨a0, a1, a2, a3, a4⟩ := hbx
      clear hV hb1
      go_wp2_with fail
      generalize (w1.alloc (.cells #[.int .u8 v.kind, .int .i64 v.num, .string ⟨v.text.toArray⟩, .slice p v.kids.length c, .slice q v.names.length d] 27)) = u1 at *
      have hp := print_any v _ u1 (fun k => k < w1.heap.size) (fun k hk => by have := HZ1.out; omega) HV1.out HFIT.out (HE.out.below HB1.out HE.out.size) (HD.out.below HB1.out HDL.out) HPL.out
      rw [HPR.out] at hp
      refine hp.mono ?_
      clear hp a0 a1 a2 a3 a4
      rintro e w2 ⟨v2, rfl, ho2, hf2⟩
      have HO2 := Lib.hid ho2
      have HB2 := Lib.hid hf2.below
      have HEu1 := Lib.hid (HE.out.below HB1.out HE.out.size)
      have HEw2 := Lib.hid (HEu1.out.below HB2.out HEu1.out.size)
      clear ho2 hf2
      obtain ⟨g2, hs2, hg2⟩ := slice_of_own HO2.out
      have HS2 := Lib.hid hs2
      have HG2 := Lib.hid (hg2 HNE.out)
      clear hs2 hg2
      obtain ⟨p2, c2, hv2, hlc2, hcm2⟩ := HS2.out.shape _ rfl
      subst hv2
      go_wp2_with fail
      have hp := parse_any g2 m _ w2 HS2.out HG2.out.2 HEw2.out
      rw [HPM.out] at hp
      refine hp.mono ?_
      clear hp
      rintro e w3 ⟨cs, rfl, hV, hb3⟩
      obtain ⟨p3, c3, p4, c4, hcs, _, _, _, _⟩ := hV.shape
      simp only [strv] at hcs
      subst hcs
      have HB3 := Lib.hid (hb3.alloc hb3.size (.cells #[.int .u8 v.kind, .int .i64 v.num, .string ⟨v.text.toArray⟩, .slice p3 v.kids.length c3, .slice p4 v.names.length c4] 27))
      have HBU := Lib.hid (box_new w3 v p3 p4 c3 c4)
      have HZ3 : Hid ((w3.alloc (.cells #[.int .u8 v.kind, .int .i64 v.num, .string ⟨v.text.toArray⟩, .slice p3 v.kids.length c3, .slice p4 v.names.length c4] 27)).heap.size = w3.heap.size + 1) := Lib.hid (by simp)
      have HU3 := Lib.hid (VAt.mono (ok' := fun k => k < w3.heap.size) (fun k hk => hk.2) _ _ (VAt.same (w' := (w3.alloc (.cells #[.int .u8 v.kind, .int .i64 v.num, .string ⟨v.text.toArray⟩, .slice p3 v.kids.length c3, .slice p4 v.names.length c4] 27))) (fun k hk => Below.heap_alloc _ _ _ hk.2) _ _ hV))
      have HBU13 := Lib.hid (HB2.out.trans (HB3.out.mono HB2.out.size))
      obtain ⟨a0, a1, a2, a3, a4⟩ := (HBX.out.same (HBU13.out.block _ (by have := HZ1.out; omega))).cells
      obtain ⟨b0, b1, b2, b3, b4⟩ := HBU.out.cells
      clear hV hb3
      go_wp2_with fail
      generalize (w3.alloc (.cells #[.int .u8 v.kind, .int .i64 v.num, .string ⟨v.text.toArray⟩, .slice p3 v.kids.length c3, .slice p4 v.names.length c4] 27)) = u3 at *
      -- May(v)
      have HEu3 := Lib.hid (HEu1.out.below HBU13.out HEu1.out.size)
      have HV3 : Hid (∀ W, Below u3.heap.size u3 W → VAt W (fun k => k < w3.heap.size) v [.int .u8 v.kind, .int .i64 v.num, .string ⟨v.text.toArray⟩, .slice p v.kids.length c, .slice q v.names.length d]) := Lib.hid (fun W h => VAt.mono (fun k hk => by have := HZ1.out; have := HBU13.out.size; have := HZ3.out; have h4 := HB2.out.size; have := HB3.out.size; omega) _ _ (VAt.same (fun k hk => (HBU13.out.trans (h.mono HBU13.out.size)).block k (by have := HZ1.out; omega)) _ _ HV1.out))
      have HU3' : Hid (∀ W, Below u3.heap.size u3 W → VAt W (fun k => k < w3.heap.size) v [.int .u8 v.kind, .int .i64 v.num, .string ⟨v.text.toArray⟩, .slice p3 v.kids.length c3, .slice p4 v.names.length c4]) := Lib.hid (fun W h => VAt.same (fun k hk => h.block k (by have := HZ3.out; omega)) _ _ HU3.out)
      have HBX3 : Hid (∀ W, Below u3.heap.size u3 W → Five W w1.heap.size (.int .u8 v.kind) (.int .i64 v.num) (.string ⟨v.text.toArray⟩) (.slice p v.kids.length c) (.slice q v.names.length d)) := Lib.hid (fun W h => HBX.out.same ((HBU13.out.trans (h.mono HBU13.out.size)).block _ (by have := HZ1.out; omega)))
      have HBU3 : Hid (∀ W, Below u3.heap.size u3 W → Five W w3.heap.size (.int .u8 v.kind) (.int .i64 v.num) (.string ⟨v.text.toArray⟩) (.slice p3 v.kids.length c3) (.slice p4 v.names.length c4)) := Lib.hid (fun W h => HBU.out.same (h.block _ (by have := HZ3.out; omega)))
      have hp := May_any v _ u3 (fun k => k < w3.heap.size) (fun k hk => by have := HZ3.out; omega) (HV3.out u3 (Below.refl _ _)) HFIT.out HEu3.out
      rw [HM1.out] at hp
      refine hp.mono ?_
      clear hp a0 a1 a2 a3 a4 b0 b1 b2 b3 b4
      rintro e w4 ⟨rfl, hb4⟩
      have HB4 := Lib.hid hb4
      clear hb4
      obtain ⟨a0, a1, a2, a3, a4⟩ := (HBX3.out _ HB4.out).cells
      obtain ⟨b0, b1, b2, b3, b4⟩ := (HBU3.out _ HB4.out).cells
      go_wp2_with fail
      have hp := same_any v v [.int .u8 v.kind, .int .i64 v.num, .string ⟨v.text.toArray⟩, .slice p3 v.kids.length c3, .slice p4 v.names.length c4] [.int .u8 v.kind, .int .i64 v.num, .string ⟨v.text.toArray⟩, .slice p v.kids.length c, .slice q v.names.length d] w4 (fun k => k < w3.heap.size) (fun k hk => by have := HZ3.out; have := HB4.out.size; omega) (HU3'.out _ HB4.out) (HV3.out _ HB4.out)
      rw [HSAME.out] at hp
      refine hp.mono ?_
      clear hp a0 a1 a2 a3 a4 b0 b1 b2 b3 b4
      rintro e w5 ⟨rfl, hb5⟩
      have HB5 := Lib.hid (HB4.out.trans (hb5.mono HB4.out.size))
      clear hb5
      obtain ⟨b0, b1, b2, b3, b4⟩ := (HBU3.out _ HB5.out).cells
      go_wp2_with fail
      have HEw5 := Lib.hid (HEu3.out.below HB5.out HEu3.out.size)
      have HBw5 := Lib.hid (HB1.out.trans ((HBU13.out.trans (HB5.out.mono HBU13.out.size)).mono HB1.out.size))
      have hp := print_any v _ w5 (fun k => k < w3.heap.size) (fun k hk => by have := HZ3.out; have := HB5.out.size; omega) (HU3'.out _ HB5.out) HFIT.out HEw5.out (HD.out.below HBw5.out HDL.out) HPL.out
      rw [HPR.out] at hp
      refine hp.mono ?_
      clear hp b0 b1 b2 b3 b4
      rintro e w6 ⟨v6, rfl, ho6, hf6⟩
      obtain ⟨g6, hs6, hg6⟩ := slice_of_own ho6
      obtain ⟨p6, c6, hv6, hlc6, hcm6⟩ := hs6.shape _ rfl
      subst hv6
      have HS6 := Lib.hid hs6
      have HB6 := Lib.hid (HBw5.out.trans (hf6.below.mono HBw5.out.size))
      have HB26 := Lib.hid (HB3.out.trans ((HB5.out.trans (hf6.below.mono HB5.out.size)).mono HB3.out.size))
      clear ho6 hf6 hs6 hg6
      have hp := bytes_same rfl g2 g6 m m _ _ w6 (HS2.out.below HB26.out HG2.out.2) HS6.out
      rw [show decide (m = m) = true from decide_eq_true rfl] at hp
      have HSB := Lib.hid hp
      have hml : decide ((m.length : Int) ≤ (l.length : Int)) = true := by have := HM3.out; simp only [decide_eq_true_eq]; omega
      clear hp
      go_wp2_with fail
      refine HSB.out.mono ?_
      rintro e w7 ⟨rfl, hb7⟩
      have HB7 := Lib.hid (HB6.out.trans (hb7.mono HB6.out.size))
      clear hb7 HSB
      go_wp2_with (first | (go_at_call 6; refine (works_any _ (HE.out.below HB7.out HE.out.size) (HD.out.below HB7.out HDL.out)).mono ?_; rintro e w8 ⟨rfl, hb8⟩; have HB8 := Lib.hid (HB7.out.trans (hb8.mono HB7.out.size)); clear hb8))
      go_ret
      exact ⟨rfl, HB8.out⟩
    · obtain ⟨h1, h2⟩ := parse_err l h0
      obtain ⟨x, hx⟩ : ∃ x, (parse l).2 = x := ⟨_, rfl⟩
      rw [h2] at hP
      rw [hx] at hP h1 h0
      have HP := Lib.hid hP
      clear hP h2 hx hS0 hl h0
      unfold Err56 at h1
      rcases h1 with rfl | rfl
      all_goals
        go_enter Tryd.func3, Tryd.ntmps3
        go_wp2_with fail
        refine HP.out.mono ?_
        rintro e w1 ⟨cs, rfl, hV, hb1⟩
        obtain ⟨p, c, q, d, hcs, _, _, _, _⟩ := hV.shape
        replace hcs : cs = [.int .u8 0, .int .i64 0, .string ⟨#[]⟩, .slice p 0 c, .slice q 0 d] := hcs
        subst hcs
        have HB1 := Lib.hid (hb1.alloc hb1.size (.cells #[.int .u8 0, .int .i64 0, .string ⟨#[]⟩, .slice p 0 c, .slice q 0 d] 27))
        clear hV hb1
        go_wp2_with (first | (go_at_call 6; refine (works_any _ (HE.out.below HB1.out HE.out.size) (HD.out.below HB1.out HDL.out)).mono ?_; rintro e w2 ⟨rfl, hb2⟩; have HB2 := Lib.hid (HB1.out.trans (hb2.mono HB1.out.size)); clear hb2))
        go_ret
        exact ⟨rfl, HB2.out⟩
end Go.Proofs.YtcmlppknfbndaaaDoor
