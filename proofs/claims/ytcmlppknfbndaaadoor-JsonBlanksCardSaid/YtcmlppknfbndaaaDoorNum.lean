/-
  json's reader: number. Conditions: each contract's own.
-/
import Derived.Test.YtcmlppknfbndaaaDoorText
namespace Go.Proofs.YtcmlppknfbndaaaDoor
open Go.RowKit Js

theorem takeWhile_at {α : Type} (p : α → Bool) : ∀ (l : List α) (j : Nat), j ≤ (l.takeWhile p).length → (j < (l.takeWhile p).length ↔ ∃ h : j < l.length, p l[j] = true)
  | [], j, h => by simp
  | a :: l, j, h => by
    cases hp : p a with
    | false =>
      simp only [List.takeWhile_cons, hp] at h ⊢
      simp only [Bool.false_eq_true, if_false, List.length_nil, Nat.le_zero_eq] at h
      subst h
      simp [hp]
    | true =>
      simp only [List.takeWhile_cons, hp, if_true, List.length_cons] at h ⊢
      cases j with
      | zero => simp [hp]
      | succ j =>
        have := takeWhile_at p l j (by omega)
        simp only [Nat.add_lt_add_iff_right, List.getElem_cons_succ]
        exact this
/-- Which place is a digit's. -/
theorem digits_at (m : List UInt8) (j : Nat) (h : j ≤ (digits m).length) : j < (digits m).length ↔ (j < m.length ∧ 48 ≤ (m.getD j 0).toNat ∧ (m.getD j 0).toNat ≤ 57 ∧ (j = 0 ∨ (m.getD 0 0).toNat ≠ 48)) := by
  cases m with
  | nil => simp [digits]
  | cons c r =>
    unfold digits at h ⊢
    by_cases hc : c = 48
    · subst hc
      simp only [if_true, List.length_singleton] at h ⊢
      constructor
      · intro hj
        obtain rfl : j = 0 := by omega
        simp
      · rintro ⟨h1, h2, h3, h4⟩
        rcases h4 with rfl | h4
        · omega
        · simp at h4
    · simp only [if_neg hc] at h ⊢
      rw [takeWhile_at _ _ _ h]
      have hcn : c.toNat ≠ 48 := fun e => hc (UInt8.toNat_inj.1 e)
      constructor
      · rintro ⟨h1, h2⟩
        refine ⟨h1, ?_, ?_, Or.inr (by simpa using hcn)⟩
        all_goals
          have := of_decide_eq_true h2
          simp only [List.getD, List.getElem?_eq_getElem h1, Option.getD_some]
          first | exact UInt8.le_iff_toNat_le.1 this.1 | exact UInt8.le_iff_toNat_le.1 this.2
      · rintro ⟨h1, h2, h3, h4⟩
        refine ⟨h1, decide_eq_true ?_⟩
        simp only [List.getD, List.getElem?_eq_getElem h1, Option.getD_some] at h2 h3
        exact ⟨UInt8.le_iff_toNat_le.2 h2, UInt8.le_iff_toNat_le.2 h3⟩
theorem digits_le (m : List UInt8) : (digits m).length ≤ m.length := by
  cases m with
  | nil => simp [digits]
  | cons c r =>
    show (if c = 48 then [48] else (c :: r).takeWhile isDigit).length ≤ _
    by_cases hc : c = 48
    · rw [if_pos hc]; simp
    · rw [if_neg hc]; exact List.Sublist.length_le (List.takeWhile_sublist _)

theorem slice_to {w : World} {b o c : Nat} {l : List UInt8} (h : Bytes w b o l) (hl : l.length ≤ c) (hc : c ≤ 9223372036854775807) (k : Nat) (hk : k ≤ l.length) : Slice w b (.slice (some ⟨b, o, none⟩) k c) (l.take k) :=
  ⟨some ⟨b, o, none⟩, c, by simp [hk], by simp; omega, hc, fun _ => ⟨o, rfl, h.take k⟩⟩

/-- ParseInt: what it comes to, as far as the reader asks. -/
theorem parse_good (l : List UInt8) (hl : l.length ≤ 1099511627776) (v : Int) (h : Lib.parseIntB 64 l = .ok v) (w : World) :
    Calls Tryd.prog 44 #[.string ⟨l.toArray⟩, .int .i64 10, .int .i64 64] w fun e w' => e = .returned (.tuple #[.int .i64 v, .nilIface]) ∧ Below w.heap.size w w' := by
  have hs : (ByteArray.mk l.toArray).size = l.length := by simp [ByteArray.size]
  refine (Tryd.strconv_ParseInt_10_at64_ok ⟨l.toArray⟩ (by omega) v h w).mono fun e w' ⟨h1, h2⟩ => ⟨h1, ?_⟩
  rcases h2 with rfl | ⟨t, rfl⟩
  · exact Below.refl _ _
  · exact below_bytesWorld _ _ _
theorem parse_bad (l : List UInt8) (hl : l.length ≤ 1099511627776) (h : ∀ v, Lib.parseIntB 64 l ≠ .ok v) (w : World) (hE : Env w) :
    Calls Tryd.prog 44 #[.string ⟨l.toArray⟩, .int .i64 10, .int .i64 64] w fun e w' => (∃ v a, e = .returned (.tuple #[.int .i64 v, .iface 100 (.pointer (some a))])) ∧ Below w.heap.size w w' := by
  have hs : (ByteArray.mk l.toArray).size = l.length := by simp [ByteArray.size]
  obtain ⟨e1, c1, d1⟩ := hE.syn
  obtain ⟨e2, c2, d2⟩ := hE.rng
  cases hp : Lib.parseIntB 64 l with
  | ok v => exact absurd hp (h v)
  | range => exact (Tryd.strconv_ParseInt_10_at64_range ⟨l.toArray⟩ (by omega) hp e2 w c2 d2).mono fun e w' ⟨N, h1, _, _, h2⟩ => ⟨⟨_, _, h1⟩, h2⟩
  | _ => exact (Tryd.strconv_ParseInt_10_at64_other ⟨l.toArray⟩ (by omega) (fun v e => h v e) (fun e => by rw [hp] at e; cases e) e1 w c1 d1).mono fun e w' ⟨N, h1, _, _, h2⟩ => ⟨⟨_, _, h1⟩, h2⟩

def i64v (n : Int) : Value := .int .i64 n

set_option maxHeartbeats 4000000 in
set_option maxRecDepth 100000 in
theorem number_plus (r b : Nat) (c0 : UInt8) (l0 : List UInt8) (w : World) (h : Rd w r b (c0 :: l0)) (hE : Env w) (hL : (c0 :: l0).length ≤ 1099511627776) (hc : c0 ≠ 45) :
    Calls Tryd.prog 30 #[.pointer (some ⟨r, 0, none⟩)] w (Steps1 Int i64v r b w (number (c0 :: l0))) := by
  have hrw := h.lt
  have hb := h.blt (by simp)
  have hs : sign (c0 :: l0) = 0 := by simp [sign, hc]
  have h0 : ((c0.toNat : Int) == 45) = false := u8_ne (d := 45) hc
  have hhead : (c0 :: l0).getD 0 0 = c0 := rfl
  have hpos : 0 < (c0 :: l0).length := by simp
  have hnl : numLen (c0 :: l0) = (digits (c0 :: l0)).length := by unfold numLen; rw [hs]; simp
  have hne : c0 :: l0 ≠ [] := by simp
  obtain ⟨R, hR⟩ : ∃ R, number (c0 :: l0) = R := ⟨_, rfl⟩
  unfold number at hR
  have hda := digits_at (c0 :: l0)
  have hdl := digits_le (c0 :: l0)
  rw [show number (c0 :: l0) = R from hR]
  rw [hs, hnl] at hR
  have hg0 := Lib.hid hhead
  generalize c0 :: l0 = l at *
  generalize (digits l).length = D at *
  have HRR := Lib.hid hR
  have HDA := Lib.hid hda
  obtain ⟨v, a1, a2, a3, a4⟩ := h
  obtain ⟨o, cap, rfl, h5, h6, h7⟩ := a4.cons hne
  have hc0 : w.cell? ⟨b, o, none⟩ = some (.int .u8 c0.toNat) := by have := h7 0 hpos; rw [hhead] at this; exact this
  have H7 := Lib.hid h7
  have HS0 := Lib.hid a4
  have HE := Lib.hid hE
  have HRW := Lib.hid hrw
  clear hR hda a4 h7 hE hrw hne hhead hnl hs hc
  go_enter Tryd.func30, Tryd.ntmps30
  go_wp2_with fail
  go_loop [3] (fun k => ∃ j : Nat, j ≤ D ∧ k = .int .i64 j) (fun k => D - (intOf k).toNat)
  case atStart => exact ⟨0, Nat.zero_le _, rfl⟩
  case round =>
    obtain ⟨j, hj, rfl⟩ := hrel
    have hd := HDA.out j hj
    have hlz : 0 < l.length := hpos
    have HG := hg0.out
    by_cases hlt : j < D
    · obtain ⟨q1, q2, q3, q4⟩ := hd.1 hlt
      by_cases hj0 : j = 0
      · subst hj0
        rw [HG] at q2 q3
        have t1 : decide ((48 : Int) ≤ (c0.toNat : Int)) = true := by simp; omega
        have t2 : decide ((c0.toNat : Int) ≤ (57 : Int)) = true := by simp; omega
        clear hd HG q4
        go_wp2_with fail
        exact ⟨⟨1, by omega, by go_num⟩, by simp [intOf]; omega⟩
      · have q5 : c0.toNat ≠ 48 := by rw [HG] at q4; omega
        have hcj : w.cell? ⟨b, o + j, none⟩ = some (.int .u8 (l.getD j 0).toNat) := H7.out j q1
        have t4 : ((c0.toNat : Int) != 48) = true := by rw [bne_iff_ne]; omega
        have t3 : ((j : Int) == 0) = false := by rw [beq_eq_false_iff_ne]; omega
        have hlenM : l.length ≤ 1099511627776 := hL
        generalize (l.getD j 0).toNat = x at *
        have t1 : decide ((48 : Int) ≤ (x : Int)) = true := by simp; omega
        have t2 : decide ((x : Int) ≤ (57 : Int)) = true := by simp; omega
        clear hd HG q4 q5 hj0
        go_wp2_with fail
        exact ⟨⟨j + 1, by omega, by go_num⟩, by simp [intOf]; omega⟩
    · obtain rfl : j = D := by omega
      have hx : ¬ (j < l.length ∧ 48 ≤ (l.getD j 0).toNat ∧ (l.getD j 0).toNat ≤ 57 ∧ (j = 0 ∨ (l.getD 0 0).toNat ≠ 48)) := fun h => hlt (hd.2 h)
      rw [HG] at hx
      clear hd hlt HDA
      by_cases hj0 : j = 0
      · subst hj0
        rw [HG] at hx
        have hx2 : decide ((48 : Int) ≤ (c0.toNat : Int)) = false ∨ (decide ((48 : Int) ≤ (c0.toNat : Int)) = true ∧ decide ((c0.toNat : Int) ≤ (57 : Int)) = false) := by
          by_cases h : 48 ≤ c0.toNat
          · right; constructor
            · simp; omega
            · simp; omega
          · left; simp; omega
        have HF : Hid (R = .err 5) := HRR.out.symm
        clear hx HG HRR
        rcases hx2 with t1 | ⟨t1, t2⟩
        all_goals
          go_wp2_with (first | (go_at_call 18; (with_reducible refine (need_f _).mono ?_); rintro e w' ⟨rfl, rfl⟩))
          exact ⟨rfl, Steps1.err HF.out ⟨rfl, Kept.refl _ _ _⟩⟩
      · have hjp : 0 < j := by omega
        have HS := Lib.hid (slice_to H7.out h5 h6 j hdl)
        have hrun := run_string HS.out w (fun _ => rfl)
        have hcap : j ≤ cap := by omega
        have hlt : (l.take j).length ≤ 1099511627776 := by simp; omega
        obtain ⟨p3, hsl3, hS3⟩ := run_from H7.out h5 h6 j hdl j rfl l.length (l.length - j) rfl rfl
        have HS3 := Lib.hid hS3
        have HRd : Hid (Rd w r b l) := ⟨_, a1, a2, a3, HS0.out⟩
        have hx2 : ¬ (j < l.length) ∨ (j < l.length ∧ decide ((48 : Int) ≤ ((l.getD j 0).toNat : Int)) = false) ∨ (j < l.length ∧ decide ((48 : Int) ≤ ((l.getD j 0).toNat : Int)) = true ∧ decide (((l.getD j 0).toNat : Int) ≤ (57 : Int)) = false)
            ∨ (j < l.length ∧ decide ((48 : Int) ≤ ((l.getD j 0).toNat : Int)) = true ∧ decide (((l.getD j 0).toNat : Int) ≤ (57 : Int)) = true ∧ ((c0.toNat : Int) != 48) = false) := by
          by_cases h1 : j < l.length
          · right
            by_cases h2 : 48 ≤ (l.getD j 0).toNat
            · right
              by_cases h3 : (l.getD j 0).toNat ≤ 57
              · right
                refine ⟨h1, by simp only [decide_eq_true_eq]; omega, by simp only [decide_eq_true_eq]; omega, ?_⟩
                have : c0.toNat = 48 := by omega
                rw [this]; rfl
              · left
                exact ⟨h1, by simp only [decide_eq_true_eq]; omega, by simp only [decide_eq_false_iff_not]; omega⟩
            · left
              exact ⟨h1, by simp only [decide_eq_false_iff_not]; omega⟩
          · left; exact h1
        have hcj : j < l.length → w.cell? ⟨b, o + j, none⟩ = some (.int .u8 (l.getD j 0).toNat) := H7.out j
        generalize (l.getD j 0).toNat = x at *
        have t3 : ((j : Int) == 0) = false := by rw [beq_eq_false_iff_ne]; omega
        clear hx HG hS3 hg0 h0
        have hcases : (∃ v, Lib.parseIntB 64 (l.take j) = .ok v ∧ R = .ok v (l.drop j)) ∨ ((∀ v, Lib.parseIntB 64 (l.take j) ≠ .ok v) ∧ R = .err 5) := by
          have h1 := HRR.out
          rw [if_neg hj0] at h1
          cases hp : Lib.parseIntB 64 (l.take j) with
          | ok v => rw [hp] at h1; exact .inl ⟨v, rfl, h1.symm⟩
          | range => rw [hp] at h1; exact .inr ⟨(fun v e => by cases e), h1.symm⟩
          | _ => rw [hp] at h1; exact .inr ⟨(fun v e => by cases e), h1.symm⟩
        rcases hcases with ⟨v, hp, hF⟩ | ⟨hp, hF⟩
        · have HF := Lib.hid hF
          have PG := Lib.hid (parse_good (l.take j) hlt v hp w)
          clear hF hp HRR hlt hj0
          rcases hx2 with t0 | ⟨t0, t1⟩ | ⟨t0, t1, t2⟩ | ⟨t0, t1, t2, t4⟩
          all_goals
            go_wp2_with (first | (go_at_call 18; (with_reducible refine (need_t _).mono ?_); rintro e w' ⟨rfl, rfl⟩))
            refine PG.out.mono ?_
            rintro e w1 ⟨rfl, hB⟩
            have b1 : w1.cell? ⟨r, 0, none⟩ = some (.slice (some ⟨b, o, none⟩) l.length cap) := by rw [hB.cell HRW.out]; exact a1
            have b2 : w1.frozen? ⟨r, 0, none⟩ = false := by rw [hB.frozen HRW.out]; exact a2
            clear a1 a2 hcj hrun
            go_wp2_with (first | (go_at_call 18; (with_reducible refine (need_t _).mono ?_); rintro e w' ⟨rfl, rfl⟩))
            go_ret
            exact Steps1.ok HF.out ⟨rfl, (HRd.out.below hB).store (HS3.out.same fun _ => hB.block b hb), (Kept.of_below hB).trans (Kept.store _ _ _ _)⟩
        · have HF := Lib.hid hF
          have PB := Lib.hid (parse_bad (l.take j) hlt hp w HE.out)
          clear hF hp HRR hlt hj0
          rcases hx2 with t0 | ⟨t0, t1⟩ | ⟨t0, t1, t2⟩ | ⟨t0, t1, t2, t4⟩
          all_goals
            go_wp2_with (first | (go_at_call 18; (with_reducible refine (need_t _).mono ?_); rintro e w' ⟨rfl, rfl⟩))
            refine PB.out.mono ?_
            rintro e w1 ⟨⟨v, a, rfl⟩, hB⟩
            clear a1 a2 hcj hrun
            go_wp2_with (first | (go_at_call 18; (with_reducible refine (need_f _).mono ?_); rintro e w' ⟨rfl, rfl⟩))
            exact ⟨rfl, Steps1.err HF.out ⟨rfl, Kept.of_below hB⟩⟩

set_option maxHeartbeats 8000000 in
set_option maxRecDepth 100000 in
theorem number_minus (r b : Nat) (l0 : List UInt8) (w : World) (h : Rd w r b (45 :: l0)) (hE : Env w) (hL : (45 :: l0).length ≤ 1099511627776) :
    Calls Tryd.prog 30 #[.pointer (some ⟨r, 0, none⟩)] w (Steps1 Int i64v r b w (number (45 :: l0))) := by
  have hrw := h.lt
  have hb := h.blt (by simp)
  have hs : sign (45 :: l0) = 1 := by simp [sign]
  have hdrop : ∀ j, (45 :: l0).getD (j + 1) 0 = l0.getD j 0 := fun j => by simp [List.getD]
  have hlen : (45 :: l0).length = l0.length + 1 := by simp
  have hnl : numLen (45 :: l0) = 1 + (digits l0).length := by unfold numLen; rw [hs]; simp
  have hne : 45 :: l0 ≠ [] := by simp
  obtain ⟨R, hR⟩ : ∃ R, number (45 :: l0) = R := ⟨_, rfl⟩
  rw [hR]
  unfold number at hR
  have hda := digits_at l0
  have hdl := digits_le l0
  rw [hs, hnl] at hR
  have HRd := Lib.hid h
  obtain ⟨v, a1, a2, a3, a4⟩ := h
  obtain ⟨o, cap, rfl, h5, h6, h7⟩ := a4.cons hne
  have hc0 : w.cell? ⟨b, o, none⟩ = some (.int .u8 45) := h7 0 (by simp)
  have H7 := Lib.hid h7
  have hfst : 0 < l0.length → w.cell? ⟨b, o + 1, none⟩ = some (.int .u8 (l0.getD 0 0).toNat) := fun h => by have := h7 1 (by simp; omega); rw [hdrop 0] at this; exact this
  have hcell : ∀ j, j < l0.length → w.cell? ⟨b, o + (j + 1), none⟩ = some (.int .u8 (l0.getD j 0).toNat) := fun j h => by have := h7 (j + 1) (by simp; omega); rw [hdrop j] at this; exact this
  rw [hlen] at a1 h5 hL
  generalize hL0 : 45 :: l0 = l at *
  generalize (digits l0).length = D at *
  have hlen' : l0.length + 1 = l.length := hlen.symm
  have HLEN := Lib.hid hlen
  have HRR := Lib.hid hR
  have HDA := Lib.hid hda
  have HC := Lib.hid hcell
  have HFST := Lib.hid hfst
  have HE := Lib.hid hE
  have HRW := Lib.hid hrw
  clear hR hda a4 h7 hE hrw hne hnl hs hdrop hL0 hlen hlen' hcell hfst
  go_enter Tryd.func30, Tryd.ntmps30
  go_wp2_with fail
  go_loop [3] (fun k => ∃ j : Nat, 1 ≤ j ∧ j ≤ D + 1 ∧ k = .int .i64 j) (fun k => D + 1 - (intOf k).toNat)
  case atStart => exact ⟨1, by omega, by omega, rfl⟩
  case round =>
    obtain ⟨j, hj1, hj, rfl⟩ := hrel
    have hd := HDA.out (j - 1) (by omega)
    by_cases hlt : j < D + 1
    · obtain ⟨q1, q2, q3, q4⟩ := hd.1 (by omega)
      by_cases hj0 : j = 1
      · subst hj0
        have hf := HFST.out (by omega)
        simp only [Nat.sub_self] at q1 q2 q3 q4
        generalize (l0.getD 0 0).toNat = x at *
        have t1 : decide ((48 : Int) ≤ (x : Int)) = true := by simp; omega
        have t2 : decide ((x : Int) ≤ (57 : Int)) = true := by simp; omega
        clear hd q4
        go_wp2_with fail
        exact ⟨⟨2, by omega, by omega, by go_num⟩, by simp [intOf]; omega⟩
      · have hf := HFST.out (by omega)
        have hcj := HC.out (j - 1) q1
        rw [show j - 1 + 1 = j by omega] at hcj
        have q5 : (l0.getD 0 0).toNat ≠ 48 := by omega
        generalize (l0.getD 0 0).toNat = c0 at *
        generalize (l0.getD (j - 1) 0).toNat = x at *
        have t4 : ((c0 : Int) != 48) = true := by rw [bne_iff_ne]; omega
        have t3 : ((j : Int) == 1) = false := by rw [beq_eq_false_iff_ne]; omega
        have t1 : decide ((48 : Int) ≤ (x : Int)) = true := by simp; omega
        have t2 : decide ((x : Int) ≤ (57 : Int)) = true := by simp; omega
        have q6 : j < l0.length + 1 := by omega
        clear hd q4 q5 hj0
        go_wp2_with fail
        exact ⟨⟨j + 1, by omega, by omega, by go_num⟩, by simp [intOf]; omega⟩
    · obtain rfl : j = D + 1 := by omega
      have hx : ¬ (D < l0.length ∧ 48 ≤ (l0.getD D 0).toNat ∧ (l0.getD D 0).toNat ≤ 57 ∧ (D = 0 ∨ (l0.getD 0 0).toNat ≠ 48)) := fun h => by
        have := hd.2 (by simpa using h)
        omega
      clear hd hlt HDA
      by_cases hj0 : D = 0
      · subst hj0
        have HF : Hid (R = .err 5) := HRR.out.symm
        have hx2 : ¬ (1 < l0.length + 1) ∨ (1 < l0.length + 1 ∧ decide ((48 : Int) ≤ ((l0.getD 0 0).toNat : Int)) = false) ∨ (1 < l0.length + 1 ∧ decide ((48 : Int) ≤ ((l0.getD 0 0).toNat : Int)) = true ∧ decide (((l0.getD 0 0).toNat : Int) ≤ (57 : Int)) = false) := by
          by_cases h1 : 0 < l0.length
          · right
            by_cases h2 : 48 ≤ (l0.getD 0 0).toNat
            · right
              exact ⟨by omega, by simp only [decide_eq_true_eq]; omega, by simp only [decide_eq_false_iff_not]; omega⟩
            · left
              exact ⟨by omega, by simp only [decide_eq_false_iff_not]; omega⟩
          · left; omega
        have hfs := HFST.out
        generalize (l0.getD 0 0).toNat = x at *
        have HFS := Lib.hid hfs
        clear hx HRR hfs
        rcases hx2 with t0 | ⟨t0, t1⟩ | ⟨t0, t1, t2⟩
        · have t5 : decide ((1 : Int) < (l0.length : Int) + 1) = false := by simp only [decide_eq_false_iff_not]; omega
          have t6 : ¬ (0 < l0.length) := by omega
          go_wp2_with (first | (go_at_call 18; (with_reducible refine (need_f _).mono ?_); rintro e w' ⟨rfl, rfl⟩))
          exact ⟨rfl, Steps1.err HF.out ⟨rfl, Kept.refl _ _ _⟩⟩
        all_goals
          have hf := HFS.out (by omega)
          have t6 : 0 < l0.length := by omega
          have t5 : decide ((1 : Int) < (l0.length : Int) + 1) = true := by simp only [decide_eq_true_eq]; omega
          go_wp2_with (first | (go_at_call 18; (with_reducible refine (need_f _).mono ?_); rintro e w' ⟨rfl, rfl⟩))
          exact ⟨rfl, Steps1.err HF.out ⟨rfl, Kept.refl _ _ _⟩⟩
      · obtain ⟨j, hjD⟩ : ∃ j, D + 1 = j := ⟨_, rfl⟩
        have hD : D = j - 1 := by omega
        subst hD
        rw [show j - 1 + 1 = j by omega] at *
        have hjp : 1 < j := by omega
        have hjl : j ≤ l.length := by have := HLEN.out; omega
        have hl5 : l.length ≤ cap := by have := HLEN.out; omega
        have HS := Lib.hid (slice_to H7.out hl5 h6 j hjl)
        have hrun := run_string HS.out w (fun _ => rfl)
        have hcap : j ≤ cap := by omega
        have hjl0 : j ≤ l0.length + 1 := by omega
        have hlt : (l.take j).length ≤ 1099511627776 := by have := HLEN.out; simp; omega
        obtain ⟨p3, hsl3, hS3⟩ := run_from H7.out hl5 h6 j hjl j rfl (l0.length + 1) (l0.length + 1 - j) HLEN.out rfl
        have HS3 := Lib.hid hS3
        have hx2 : ¬ (j < l0.length + 1) ∨ (j < l0.length + 1 ∧ decide ((48 : Int) ≤ ((l0.getD (j - 1) 0).toNat : Int)) = false) ∨ (j < l0.length + 1 ∧ decide ((48 : Int) ≤ ((l0.getD (j - 1) 0).toNat : Int)) = true ∧ decide (((l0.getD (j - 1) 0).toNat : Int) ≤ (57 : Int)) = false)
            ∨ (j < l0.length + 1 ∧ decide ((48 : Int) ≤ ((l0.getD (j - 1) 0).toNat : Int)) = true ∧ decide (((l0.getD (j - 1) 0).toNat : Int) ≤ (57 : Int)) = true ∧ (((l0.getD 0 0).toNat : Int) != 48) = false) := by
          by_cases h1 : j < l0.length + 1
          · right
            by_cases h2 : 48 ≤ (l0.getD (j - 1) 0).toNat
            · right
              by_cases h3 : (l0.getD (j - 1) 0).toNat ≤ 57
              · right
                refine ⟨h1, by simp only [decide_eq_true_eq]; omega, by simp only [decide_eq_true_eq]; omega, ?_⟩
                have : (l0.getD 0 0).toNat = 48 := by
                  have : j - 1 < l0.length := by omega
                  omega
                rw [this]; rfl
              · left
                exact ⟨h1, by simp only [decide_eq_true_eq]; omega, by simp only [decide_eq_false_iff_not]; omega⟩
            · left
              exact ⟨h1, by simp only [decide_eq_false_iff_not]; omega⟩
          · left; exact h1
        have hf := HFST.out (by omega)
        have hcj : j < l0.length + 1 → w.cell? ⟨b, o + j, none⟩ = some (.int .u8 (l0.getD (j - 1) 0).toNat) := fun h => by
          have := HC.out (j - 1) (by omega)
          rw [show j - 1 + 1 = j by omega] at this
          exact this
        have h1 := HRR.out
        rw [if_neg (by omega), show 1 + (j - 1) = j by omega] at h1
        have hcases : (∃ v, Lib.parseIntB 64 (l.take j) = .ok v ∧ R = .ok v (l.drop j)) ∨ ((∀ v, Lib.parseIntB 64 (l.take j) ≠ .ok v) ∧ R = .err 5) := by
          cases hp : Lib.parseIntB 64 (l.take j) with
          | ok v => rw [hp] at h1; exact .inl ⟨v, rfl, h1.symm⟩
          | range => rw [hp] at h1; exact .inr ⟨(fun v e => by cases e), h1.symm⟩
          | _ => rw [hp] at h1; exact .inr ⟨(fun v e => by cases e), h1.symm⟩
        generalize (l0.getD 0 0).toNat = c0 at *
        generalize (l0.getD (j - 1) 0).toNat = x at *
        have t3 : ((j : Int) == 1) = false := by rw [beq_eq_false_iff_ne]; omega
        have t7 : decide ((1 : Int) < (j : Int)) = true := by simp only [decide_eq_true_eq]; omega
        have tlt : j < l0.length + 1 → decide ((j : Int) < (l0.length : Int) + 1) = true := fun h => by simp only [decide_eq_true_eq]; omega
        have tge : ¬ j < l0.length + 1 → decide ((j : Int) < (l0.length : Int) + 1) = false := fun h => by simp only [decide_eq_false_iff_not]; omega
        have TLT := Lib.hid tlt
        have TGE := Lib.hid tge
        clear hx hS3 HRR h1 tlt tge
        rcases hcases with ⟨v, hp, hF⟩ | ⟨hp, hF⟩
        · have HF := Lib.hid hF
          have PG := Lib.hid (parse_good (l.take j) hlt v hp w)
          clear hF hp hlt hj0
          rcases hx2 with t0 | ⟨t0, t1⟩ | ⟨t0, t1, t2⟩ | ⟨t0, t1, t2, t4⟩
          all_goals
            first | have tt := TGE.out t0 | have tt := TLT.out t0
            go_wp2_with (first | (go_at_call 18; (with_reducible refine (need_t _).mono ?_); rintro e w' ⟨rfl, rfl⟩))
            refine PG.out.mono ?_
            rintro e w1 ⟨rfl, hB⟩
            have b1 : w1.cell? ⟨r, 0, none⟩ = some (.slice (some ⟨b, o, none⟩) (l0.length + 1) cap) := by rw [hB.cell HRW.out]; exact a1
            have b2 : w1.frozen? ⟨r, 0, none⟩ = false := by rw [hB.frozen HRW.out]; exact a2
            clear a1 a2 hcj hrun
            go_wp2_with (first | (go_at_call 18; (with_reducible refine (need_t _).mono ?_); rintro e w' ⟨rfl, rfl⟩))
            go_ret
            exact Steps1.ok HF.out ⟨rfl, (HRd.out.below hB).store (HS3.out.same fun _ => hB.block b hb), (Kept.of_below hB).trans (Kept.store _ _ _ _)⟩
        · have HF := Lib.hid hF
          have PB := Lib.hid (parse_bad (l.take j) hlt hp w HE.out)
          clear hF hp hlt hj0
          rcases hx2 with t0 | ⟨t0, t1⟩ | ⟨t0, t1, t2⟩ | ⟨t0, t1, t2, t4⟩
          all_goals
            first | have tt := TGE.out t0 | have tt := TLT.out t0
            go_wp2_with (first | (go_at_call 18; (with_reducible refine (need_t _).mono ?_); rintro e w' ⟨rfl, rfl⟩))
            refine PB.out.mono ?_
            rintro e w1 ⟨⟨v, a, rfl⟩, hB⟩
            clear a1 a2 hcj hrun
            go_wp2_with (first | (go_at_call 18; (with_reducible refine (need_f _).mono ?_); rintro e w' ⟨rfl, rfl⟩))
            exact ⟨rfl, Steps1.err HF.out ⟨rfl, Kept.of_below hB⟩⟩

theorem number_any (r b : Nat) (l : List UInt8) (w : World) (h : Rd w r b l) (hE : Env w) (hL : l.length ≤ 1099511627776) (hl : l ≠ []) :
    Calls Tryd.prog 30 #[.pointer (some ⟨r, 0, none⟩)] w (Steps1 Int i64v r b w (number l)) := by
  cases l with
  | nil => exact absurd rfl hl
  | cons c l =>
    by_cases hc : c = 45
    · subst hc; exact number_minus r b l w h hE hL
    · exact number_plus r b c l w h hE hL hc
end Go.Proofs.YtcmlppknfbndaaaDoor
