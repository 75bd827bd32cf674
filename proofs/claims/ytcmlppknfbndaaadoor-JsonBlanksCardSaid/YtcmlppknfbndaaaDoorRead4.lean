/-
  json's reader: escape. Conditions: each contract's own.
-/
import Derived.Test.YtcmlppknfbndaaaDoorRead3
namespace Go.Proofs.YtcmlppknfbndaaaDoor
open Go.RowKit Js

/-- 's[k:]' of a slice of bytes, whatever room it has. -/
theorem run_from {w : World} {b o c : Nat} {l : List UInt8} (h : Bytes w b o l) (hl : l.length ≤ c) (hc : c ≤ 9223372036854775807) (k : Nat) (hk : k ≤ l.length) (kI : Int) (hkI : kI = (k : Int)) (n m : Nat) (hn : l.length = n) (hm : n - k = m) :
    ∃ p, (∀ w', (Instr.slice 22 (.slice (some ⟨b, o, none⟩) n c) (some (.int .i64 kI)) none none).run Tryd.prog w' = .ok (.slice p m (c - k)) w') ∧ Slice w b (.slice p m (c - k)) (l.drop k) := by
  subst hkI hn hm
  refine ⟨if c = k then some ⟨b, o, none⟩ else some (Addr.add ⟨b, o, none⟩ k), fun w' => ?_, Slice.from h hl hc k hk _ (fun hlt => ?_)⟩
  · have hel : Tryd.prog.underlying 22 = some (.slice (Tryd.prog.elem 22)) := by kernel_rfl
    rw [run_slice_l _ _ _ _ _ hel .i64 k (by omega) (by omega)]
    have hs : ∀ w, (sizeOf (Tryd.prog.elem 22)).run Tryd.prog w = .ok 1 w := fun _ => by kernel_rfl
    rw [hs]
    simp only [Result.andThen, sliced, Int.toNat_natCast, Nat.mul_one, Option.map_some]
  · rw [if_neg (by omega)]
    simp only [Addr.add]
    split
    · rename_i h0; subst h0; rfl
    · rfl

theorem idx_any (s : ByteArray) (x q : Int) (w : World) (h : Lib.indexByte s.data.toList x.toNat.toUInt8 = q) :
    Calls Tryd.prog 51 #[.string s, .int .u8 x] w fun e w' => e = .returned (.int .i64 q) ∧ w = w' :=
  (Tryd.strings_IndexByte _ _ _).mono fun e w' ⟨h1, h2⟩ => ⟨by rw [h1]; exact congrArg (fun q => Ending.returned (.int .i64 q)) h, h2.symm⟩
theorem rune_any (n : Int) (t : Bool) (w : World) (h : isRune n = t) :
    Calls Tryd.prog 57 #[.int .i32 n] w fun e w' => e = .returned (.bool t) ∧ w = w' :=
  (Tryd.utf8_ValidRune _ _).mono fun e w' ⟨h1, h2⟩ => ⟨by rw [h1]; exact congrArg (fun q => Ending.returned (.bool q)) h, h2.symm⟩

theorem hexVal_range (c : UInt8) (d : Int) (h : hexVal c = some d) : 0 ≤ d ∧ d ≤ 15 := by
  obtain ⟨_, h0, h1, _⟩ := hexAt_some c d h
  exact ⟨h0, h1⟩
theorem units_bound : ∀ (k : Nat) (n : Int) (l : List UInt8) (m : Int) (r : List UInt8) (B : Int), units k n l = .ok m r → 0 ≤ n → n ≤ B → 0 ≤ m ∧ m ≤ (B + 1) * 16 ^ k - 1 ∧ r.length + k = l.length
  | 0, n, l, m, r, B, h, h0, h1 => by
    simp only [units, Res.ok.injEq] at h
    obtain ⟨rfl, rfl⟩ := h
    simp; omega
  | k + 1, n, [], m, r, B, h, h0, h1 => by simp [units] at h
  | k + 1, n, c :: l, m, r, B, h, h0, h1 => by
    simp only [units] at h
    cases hv : hexVal c with
    | none => simp [hv] at h
    | some d =>
      rw [hv] at h
      obtain ⟨d0, d1⟩ := hexVal_range c d hv
      obtain ⟨a1, a2, a3⟩ := units_bound k _ l m r (16 * B + 15) h (by omega) (by omega)
      refine ⟨a1, ?_, by simp; omega⟩
      rw [Int.pow_succ, show (B + 1) * (16 ^ k * 16) = (16 * B + 15 + 1) * 16 ^ k by rw [show (16 * B + 15 + 1 : Int) = (B + 1) * 16 by omega, Int.mul_assoc, Int.mul_comm 16]]
      exact a2
theorem unit_bound {l : List UInt8} {n : Int} {r : List UInt8} (h : unit l = .ok n r) : 0 ≤ n ∧ n ≤ 65535 ∧ r.length + 4 = l.length := by
  obtain ⟨h1, h2, h3⟩ := units_bound 4 0 l n r 0 h (by omega) (by omega)
  exact ⟨h1, by simpa using h2, h3⟩

/-- At the end of what there is. -/
theorem escape_nil (r b : Nat) (w : World) (h : Rd w r b []) :
    Calls Tryd.prog 40 #[.pointer (some ⟨r, 0, none⟩)] w (Steps1 Int i32v r b w (escape [])) := by
  obtain ⟨v, h1, h2, h3, h4⟩ := h
  obtain ⟨p, c, rfl, hc⟩ := h4.nil
  clear h4
  go_enter Tryd.func40, Tryd.ntmps40
  go_wp2_with (go_at_call 18; refine (need_f _).mono ?_; rintro e w' ⟨rfl, rfl⟩)
  exact ⟨rfl, Steps1.err rfl ⟨rfl, Kept.refl _ _ _⟩⟩

set_option maxHeartbeats 1000000 in
theorem escape_letter (r b : Nat) (c : UInt8) (l : List UInt8) (w : World) (h : Rd w r b (c :: l)) (n : Int) (hn : letter c = some n) :
    Calls Tryd.prog 40 #[.pointer (some ⟨r, 0, none⟩)] w (Steps1 Int i32v r b w (.ok n l)) := by
  have H0 := Lib.hid h
  obtain ⟨v, h1, h2, h3, h4⟩ := h
  obtain ⟨o, cap, rfl, h5, h6, h7⟩ := h4.cons (by simp)
  have h8 := h7.head
  obtain ⟨p, hrun, hs⟩ := run_from h7 h5 h6 1 (by simp) 1 rfl (l.length + 1) l.length (by simp) (by omega)
  simp only [List.length_cons, List.drop_one, List.tail_cons] at h1 h5 hs
  have HS := Lib.hid hs
  obtain ⟨q, hcs⟩ : ∃ q : Int, (c = 34 ∧ n = 34 ∧ q = 0) ∨ (c = 92 ∧ n = 92 ∧ q = 1) ∨ (c = 98 ∧ n = 8 ∧ q = 2) ∨ (c = 102 ∧ n = 12 ∧ q = 3) ∨ (c = 110 ∧ n = 10 ∧ q = 4) ∨ (c = 114 ∧ n = 13 ∧ q = 5) ∨ (c = 116 ∧ n = 9 ∧ q = 6) ∨ (c = 47 ∧ n = 47 ∧ q = -1) := by
    unfold letter at hn
    repeat' split at hn
    all_goals simp_all
  have HQ : Hid (Lib.indexByte [34, 92, 98, 102, 110, 114, 116] c = q) := by
    rcases hcs with ⟨rfl, rfl, rfl⟩ | ⟨rfl, rfl, rfl⟩ | ⟨rfl, rfl, rfl⟩ | ⟨rfl, rfl, rfl⟩ | ⟨rfl, rfl, rfl⟩ | ⟨rfl, rfl, rfl⟩ | ⟨rfl, rfl, rfl⟩ | ⟨rfl, rfl, rfl⟩
    all_goals exact Lib.hid (by decide)
  clear h4 h7 hs hn
  rcases hcs with ⟨rfl, rfl, rfl⟩ | ⟨rfl, rfl, rfl⟩ | ⟨rfl, rfl, rfl⟩ | ⟨rfl, rfl, rfl⟩ | ⟨rfl, rfl, rfl⟩ | ⟨rfl, rfl, rfl⟩ | ⟨rfl, rfl, rfl⟩ | ⟨rfl, rfl, rfl⟩
  all_goals
    go_enter Tryd.func40, Tryd.ntmps40
    go_wp2_with (first | (go_at_call 18; refine (need_t _).mono ?_; rintro e w' ⟨rfl, rfl⟩) | (go_at_call 51; refine (idx_any _ _ _ _ HQ.out).mono ?_; rintro e w' ⟨rfl, rfl⟩))
    go_ret
    refine Steps1.ok rfl ⟨?_, H0.out.store HS.out, Kept.store _ _ _ _⟩
    first | rfl | exact congrArg (fun z => Ending.returned (Value.int .i32 z)) (by kernel_rfl)

theorem letter_none (c : UInt8) (h : letter c = none) : Lib.indexByte [34, 92, 98, 102, 110, 114, 116] c = -1 ∧ c ≠ 47 := by
  have : ∀ n < 256, letter (UInt8.ofNat n) = none → Lib.indexByte [34, 92, 98, 102, 110, 114, 116] (UInt8.ofNat n) = -1 ∧ UInt8.ofNat n ≠ 47 := by decide +kernel
  have := this c.toNat c.toNat_lt
  simp only [UInt8.ofNat_toNat] at this
  exact this h
theorem u8_ne {c d : UInt8} (h : c ≠ d) : ((c.toNat : Int) == (d.toNat : Int)) = false := by
  rw [beq_eq_false_iff_ne]
  intro e
  exact h (UInt8.toNat_inj.1 (by omega))
theorem u8_back (c : UInt8) : (Int.toNat (c.toNat : Int)).toUInt8 = c := by simp

theorem escape_other (r b : Nat) (c : UInt8) (l : List UInt8) (w : World) (h : Rd w r b (c :: l)) (hn : letter c = none) (hu : c ≠ 117) :
    Calls Tryd.prog 40 #[.pointer (some ⟨r, 0, none⟩)] w fun e w' => Panics 5 e ∧ Kept w.heap.size r w w' := by
  obtain ⟨v, h1, h2, h3, h4⟩ := h
  obtain ⟨o, cap, rfl, h5, h6, h7⟩ := h4.cons (by simp)
  have h8 := h7.head
  obtain ⟨p, hrun, hs⟩ := run_from h7 h5 h6 1 (by simp) 1 rfl (l.length + 1) l.length (by simp) (by omega)
  simp only [List.length_cons, List.drop_one, List.tail_cons] at h1 h5 hs
  obtain ⟨q1, q2⟩ := letter_none c hn
  have t1 : ((c.toNat : Int) == 47) = false := u8_ne q2
  have t2 : ((c.toNat : Int) == 117) = false := u8_ne hu
  have HQ : Hid (Lib.indexByte [34, 92, 98, 102, 110, 114, 116] (Int.toNat (c.toNat : Int)).toUInt8 = -1) := by rw [u8_back]; exact Lib.hid q1
  clear h4 h7 hs hn q1 q2 hu
  go_enter Tryd.func40, Tryd.ntmps40
  go_wp2_with (first | (go_at_call 18; first | ((with_reducible refine (need_t _).mono ?_); rintro e w' ⟨rfl, rfl⟩) | ((with_reducible refine (need_f _).mono ?_); rintro e w' ⟨rfl, rfl⟩)) | (go_at_call 51; refine (idx_any _ _ _ _ HQ.out).mono ?_; rintro e w' ⟨rfl, rfl⟩))
  exact ⟨rfl, rfl, Kept.store _ _ _ _⟩
end Go.Proofs.YtcmlppknfbndaaaDoor
