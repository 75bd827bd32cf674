/-
  json's reader: unit. Conditions: each contract's own.
-/
import Derived.Test.YtcmlppknfbndaaaDoorRead1
namespace Go.Proofs.YtcmlppknfbndaaaDoor
open Go.RowKit Js

/-- Where a byte's letter stands among the digits of base 16. -/
def hexAt (x : Int) : Int := Lib.indexByte (ByteArray.mk #[48, 49, 50, 51, 52, 53, 54, 55, 56, 57, 97, 98, 99, 100, 101, 102]).data.toList (bits BinOp.or IntKind.u8 x 32).toNat.toUInt8
def HexOk (n : Nat) (o : Option Int) : Bool := match o with
    | some d => decide (hexAt (n : Int) = d ∧ 0 ≤ d ∧ d ≤ 15 ∧ ((48 ≤ n ∧ n ≤ 57) ∨ 65 ≤ n))
    | none => decide (hexAt (n : Int) = -1 ∨ (0 ≤ hexAt (n : Int) ∧ hexAt (n : Int) ≤ 15 ∧ ¬ (48 ≤ n ∧ n ≤ 57) ∧ n < 65))
theorem hexAt_all : ∀ n < 256, HexOk n (hexVal (UInt8.ofNat n)) = true := by decide +kernel
theorem hexAt_some (c : UInt8) (d : Int) (h : hexVal c = some d) : hexAt c.toNat = d ∧ 0 ≤ d ∧ d ≤ 15 ∧ ((48 ≤ c.toNat ∧ c.toNat ≤ 57) ∨ 65 ≤ c.toNat) := by
  have := hexAt_all c.toNat c.toNat_lt
  rw [show UInt8.ofNat c.toNat = c by simp, h] at this
  exact of_decide_eq_true this
theorem hexAt_none (c : UInt8) (h : hexVal c = none) : hexAt c.toNat = -1 ∨ (0 ≤ hexAt c.toNat ∧ hexAt c.toNat ≤ 15 ∧ ¬ (48 ≤ c.toNat ∧ c.toNat ≤ 57) ∧ c.toNat < 65) := by
  have := hexAt_all c.toNat c.toNat_lt
  rw [show UInt8.ofNat c.toNat = c by simp, h] at this
  exact of_decide_eq_true this
theorem idx_hex (x q : Int) (w : World) (h : hexAt x = q) :
    Calls Tryd.prog 51 #[.string (ByteArray.mk #[48, 49, 50, 51, 52, 53, 54, 55, 56, 57, 97, 98, 99, 100, 101, 102]), .int .u8 (bits BinOp.or IntKind.u8 x 32)] w fun e w' => e = .returned (.int .i64 q) ∧ w = w' :=
  (Tryd.strings_IndexByte _ _ _).mono fun e w' ⟨h1, h2⟩ => ⟨by rw [h1]; exact congrArg (fun q => Ending.returned (.int .i64 q)) h, h2.symm⟩

theorem unit_short (r b : Nat) (l : List UInt8) (w : World) (h : Rd w r b l) (hs : l.length < 4) :
    Calls Tryd.prog 56 #[.pointer (some ⟨r, 0, none⟩)] w fun e w' => Panics 5 e ∧ w = w' := by
  obtain ⟨v, h1, h2, h3, p, c, rfl, h5, h6, h7⟩ := h
  clear h7
  have hd : decide (4 ≤ (l.length : Int)) = false := by simp; omega
  go_enter Tryd.func56, Tryd.ntmps56
  go_wp2_with (go_at_call 18; refine (need_f _).mono ?_; rintro e w' ⟨rfl, rfl⟩)
  exact ⟨rfl, rfl, rfl⟩

/-- What a reader's step comes to, where it gives a value that does not lie in memory. -/
def Steps1 (α : Type) (enc : α → Value) (r b : Nat) (w : World) (x : Res α) (e : Ending) (w' : World) : Prop :=
  match x with
  | .ok a rest => e = .returned (enc a) ∧ Rd w' r b rest ∧ Kept w.heap.size r w w'
  | .err c => Panics c e ∧ Kept w.heap.size r w w'
theorem Steps1.ok {α : Type} {enc : α → Value} {r b : Nat} {w : World} {x : Res α} {e : Ending} {w' : World} {a : α} {rest : List UInt8} (hx : x = .ok a rest)
    (h : e = .returned (enc a) ∧ Rd w' r b rest ∧ Kept w.heap.size r w w') : Steps1 α enc r b w x e w' := by subst hx; exact h
theorem Steps1.err {α : Type} {enc : α → Value} {r b : Nat} {w : World} {x : Res α} {e : Ending} {w' : World} {c : Int} (hx : x = .err c)
    (h : Panics c e ∧ Kept w.heap.size r w w') : Steps1 α enc r b w x e w' := by subst hx; exact h
theorem Steps1.get_ok {α : Type} {enc : α → Value} {r b : Nat} {w : World} {x : Res α} {e : Ending} {w' : World} {a : α} {rest : List UInt8} (h : Steps1 α enc r b w x e w') (hx : x = .ok a rest) :
    e = .returned (enc a) ∧ Rd w' r b rest ∧ Kept w.heap.size r w w' := by subst hx; exact h
theorem Steps1.get_err {α : Type} {enc : α → Value} {r b : Nat} {w : World} {x : Res α} {e : Ending} {w' : World} {c : Int} (h : Steps1 α enc r b w x e w') (hx : x = .err c) :
    Panics c e ∧ Kept w.heap.size r w w' := by subst hx; exact h
def i32v (n : Int) : Value := .int .i32 n

theorem units_step (k : Nat) (n : Int) (l : List UInt8) (c : UInt8) (r : List UInt8) (hl : l = c :: r) : units (k + 1) n l = match hexVal c with | some d => units k (16 * n + d) r | none => .err 5 := by
  subst hl; rfl

theorem bits_or_shl (m d : Int) (hm0 : 0 ≤ m) (hm : m < 4096) (h0 : 0 ≤ d) (h1 : d ≤ 15) : bits BinOp.or IntKind.i32 (m * 16) d = 16 * m + d := by
  rw [Int.mul_comm 16 m]
  exact bits_join .i32 31 (by decide) wraps_i32 4 (m * 16) d (by omega) (by omega) (by omega) h0 (by omega) (by omega)
set_option maxHeartbeats 1000000 in
theorem unit_long (r b : Nat) (l : List UInt8) (w : World) (h : Rd w r b l) (hs : 4 ≤ l.length) :
    Calls Tryd.prog 56 #[.pointer (some ⟨r, 0, none⟩)] w (Steps1 Int i32v r b w (unit l)) := by
  have h0 := h
  obtain ⟨v, h1, h2, h3, h4⟩ := h
  obtain ⟨o, c, rfl, h5, h6, h7⟩ := h4.cons (by intro e; subst e; simp at hs)
  have hd : decide (4 ≤ (l.length : Int)) = true := by simp; omega
  have h8 := Lib.hid h7
  have H0 := Lib.hid h0
  have H3 := Lib.hid h3
  clear h7 h4 h0 h3
  have hc4 : 4 ≤ c := by omega
  obtain ⟨R, hR⟩ : ∃ R, unit l = R := ⟨_, rfl⟩
  rw [hR]
  have HR := Lib.hid hR
  clear hR
  go_enter Tryd.func56, Tryd.ntmps56
  go_wp2_with (go_at_call 18; refine (need_t _).mono ?_; rintro e w' ⟨rfl, rfl⟩)
  go_loop [3, 5, 6, 20] (fun n _ _ i => ∃ k : Nat, ∃ m : Int, k ≤ 4 ∧ i = .int .i64 k ∧ n = .int .i32 m ∧ 0 ≤ m ∧ m < 16 ^ k ∧ Hid (units (4 - k) m (l.drop k) = R)) (fun _ _ _ i => 4 - (intOf i).toNat)
  case atStart => exact ⟨0, 0, by omega, rfl, rfl, by omega, by omega, HR.out⟩
  case round =>
    obtain ⟨k, m, hk, rfl, rfl, hm0, hm, hu⟩ := hrel
    by_cases hlt : k < 4
    · have hcell : w.cell? ⟨b, o + k, none⟩ = some (.int .u8 (l.getD k 0).toNat) := h8.out k (by omega)
      obtain ⟨d, hd0⟩ : ∃ d, l.getD k 0 = d := ⟨_, rfl⟩
      have hdr : l.drop k = d :: l.drop (k + 1) := by
        rw [List.drop_eq_getElem_cons (by omega), ← hd0]; simp [List.getD, show k < l.length by omega]
      have hst := units_step (4 - (k + 1)) m (l.drop k) d _ hdr
      rw [show 4 - (k + 1) + 1 = 4 - k by omega, hu.out] at hst
      rw [hd0] at hcell
      have hd256 := d.toNat_lt
      have hk4 : (16:Int) ^ k ≤ 4096 := by
        have : k = 0 ∨ k = 1 ∨ k = 2 ∨ k = 3 := by omega
        rcases this with rfl | rfl | rfl | rfl <;> decide
      have HP : Hid ((16:Int) ^ (k + 1) = 16 ^ k * 16) := Int.pow_succ ..
      have hm4 : m < 4096 := by omega
      have HM := Lib.hid hm
      clear hu hd0 hdr hk4 hm
      cases hv : hexVal d with
      | none =>
        rw [hv] at hst
        have HS := Lib.hid hst
        have hn := hexAt_none d hv
        obtain ⟨q, hq⟩ : ∃ q, hexAt d.toNat = q := ⟨_, rfl⟩
        rw [hq] at hn
        have HQ := Lib.hid hq
        clear hq hst hv
        rcases hn with rfl | ⟨hn0, hn1, hn2, hn3⟩
        · go_wp2_with (first | (go_at_call 51; refine (idx_hex _ _ _ HQ.out).mono ?_; rintro e w' ⟨rfl, rfl⟩) | (go_at_call 18; refine (need_f _).mono ?_; rintro e w' ⟨rfl, rfl⟩))
          exact ⟨rfl, Steps1.err HS.out ⟨rfl, Kept.refl _ _ _⟩⟩
        · have t0 : decide (0 ≤ q) = true := by simpa using hn0
          have t1 : decide ((65:Int) ≤ (d.toNat : Int)) = false := by simp; omega
          by_cases h48 : 48 ≤ d.toNat
          · have t2 : decide ((48:Int) ≤ (d.toNat : Int)) = true := by simp; omega
            have t3 : decide ((d.toNat : Int) ≤ (57:Int)) = false := by simp; omega
            clear hn0 hn2 hn3 h48
            go_wp2_with (first | (go_at_call 51; refine (idx_hex _ _ _ HQ.out).mono ?_; rintro e w' ⟨rfl, rfl⟩) | (go_at_call 18; refine (need_f _).mono ?_; rintro e w' ⟨rfl, rfl⟩))
            exact ⟨rfl, Steps1.err HS.out ⟨rfl, Kept.refl _ _ _⟩⟩
          · have t2 : decide ((48:Int) ≤ (d.toNat : Int)) = false := by simp; omega
            clear hn0 hn2 hn3 h48
            go_wp2_with (first | (go_at_call 51; refine (idx_hex _ _ _ HQ.out).mono ?_; rintro e w' ⟨rfl, rfl⟩) | (go_at_call 18; refine (need_f _).mono ?_; rintro e w' ⟨rfl, rfl⟩))
            exact ⟨rfl, Steps1.err HS.out ⟨rfl, Kept.refl _ _ _⟩⟩
      | some x =>
        rw [hv] at hst
        have HS := Lib.hid hst
        obtain ⟨hq, hx0, hx1, hor⟩ := hexAt_some d x hv
        have HQ := Lib.hid hq
        clear hq hst hv
        have t0 : decide (0 ≤ x) = true := by simpa using hx0
        have HC := Lib.hid (bits_or_shl m x hm0 hm4 hx0 hx1)
        rcases hor with ⟨hn0, hn1⟩ | hn0
        · have t2 : decide ((48:Int) ≤ (d.toNat : Int)) = true := by simp; omega
          have t3 : decide ((d.toNat : Int) ≤ (57:Int)) = true := by simp; omega
          clear hn0 hn1
          go_wp2_with (first | (go_at_call 51; refine (idx_hex _ _ _ HQ.out).mono ?_; rintro e w' ⟨rfl, rfl⟩) | (go_at_call 18; refine (need_t _).mono ?_; rintro e w' ⟨rfl, rfl⟩))
          rw [HC.out]
          exact ⟨⟨k + 1, 16 * m + x, by omega, by go_num, rfl, by omega, by have := HP.out; have := HM.out; omega, by rw [show 4 - (k + 1) = 4 - k - 1 by omega] at *; exact HS.out.symm⟩, by simp [intOf]; omega⟩
        · have t1 : decide ((65:Int) ≤ (d.toNat : Int)) = true := by simp; omega
          have t3 : decide ((d.toNat : Int) ≤ (57:Int)) = false := by simp; omega
          have t2 : decide ((48:Int) ≤ (d.toNat : Int)) = true := by simp; omega
          clear hn0
          go_wp2_with (first | (go_at_call 51; refine (idx_hex _ _ _ HQ.out).mono ?_; rintro e w' ⟨rfl, rfl⟩) | (go_at_call 18; refine (need_t _).mono ?_; rintro e w' ⟨rfl, rfl⟩))
          rw [HC.out]
          exact ⟨⟨k + 1, 16 * m + x, by omega, by go_num, rfl, by omega, by have := HP.out; have := HM.out; omega, HS.out.symm⟩, by simp [intOf]; omega⟩
    · obtain rfl : k = 4 := by omega
      have hfin : R = .ok m (l.drop 4) := hu.out.symm
      have HF := Lib.hid hfin
      clear hfin hu
      by_cases hc : c = 4
      · subst hc
        go_wp2
        go_ret
        have hsl := Slice.from h8.out h5 h6 4 hs (some ⟨b, o, none⟩) (by omega)
        rw [show l.length - 4 = 0 by omega] at hsl
        exact Steps1.ok HF.out ⟨rfl, H0.out.store hsl, Kept.store _ _ _ _⟩
      · have hc5 : 4 < c := by omega
        go_wp2
        go_ret
        exact Steps1.ok HF.out ⟨rfl, H0.out.store (Slice.from h8.out h5 h6 4 hs _ (fun _ => rfl)), Kept.store _ _ _ _⟩
theorem units_short : ∀ (k : Nat) (n : Int) (l : List UInt8), l.length < k → units k n l = .err 5
  | 0, _, _, h => absurd h (Nat.not_lt_zero _)
  | _ + 1, _, [], _ => rfl
  | k + 1, n, c :: l, h => by
    simp only [units]
    cases hexVal c with
    | none => rfl
    | some d => exact units_short k _ l (by simp at h; omega)
theorem unit_any (r b : Nat) (l : List UInt8) (w : World) (h : Rd w r b l) :
    Calls Tryd.prog 56 #[.pointer (some ⟨r, 0, none⟩)] w (Steps1 Int i32v r b w (unit l)) := by
  by_cases hs : 4 ≤ l.length
  · exact unit_long r b l w h hs
  · refine (unit_short r b l w h (by omega)).mono fun e w' ⟨h1, h2⟩ => ?_
    subst h2
    exact Steps1.err (units_short 4 0 l (by omega)) ⟨h1, Kept.refl _ _ _⟩
end Go.Proofs.YtcmlppknfbndaaaDoor
