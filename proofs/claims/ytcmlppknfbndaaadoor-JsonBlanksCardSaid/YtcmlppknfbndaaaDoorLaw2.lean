/-
  PLAIN LAWS OF NUMERALS AND OF WHAT IS READ OF A TEXT. Conditions: each lemma's own.
-/
import Derived.Test.YtcmlppknfbndaaaDoorLaw1
import Derived.Lib.ItoaMem
import Derived.Lib.ParseIntBCases
namespace Go.Proofs.YtcmlppknfbndaaaDoor.Js
open Go

theorem nDigits_le : ∀ (k u : Nat), u < 10 ^ (k + 1) → Lib.nDigits u ≤ k + 1
  | 0, u, h => by rw [Lib.nDigits_small (by omega)]; omega
  | k + 1, u, h => by
    by_cases hs : u < 10
    · rw [Lib.nDigits_small hs]; omega
    · rw [Lib.nDigits_big hs]
      have : u / 10 < 10 ^ (k + 1) := by
        rw [Nat.div_lt_iff_lt_mul (by decide)]
        rw [Nat.pow_succ] at h; omega
      have := nDigits_le k (u / 10) this
      omega
theorem decDigits_small {u : Nat} (h : u < 10) : Lib.decDigits u = [UInt8.ofNat (48 + u)] := by rw [Lib.decDigits, dif_pos h]
theorem decDigits_big {u : Nat} (h : ¬ u < 10) : Lib.decDigits u = Lib.decDigits (u / 10) ++ [UInt8.ofNat (48 + u % 10)] := by rw [Lib.decDigits, dif_neg h]
theorem dig_byte {d : Nat} (h : d < 10) : (UInt8.ofNat (48 + d)).toNat = 48 + d := ofNat_toNat (by omega)
theorem decDigits_all : ∀ (k u : Nat), u ≤ k → ∀ c ∈ Lib.decDigits u, 48 ≤ c.toNat ∧ c.toNat ≤ 57
  | k, u, hk, c, hc => by
    by_cases hs : u < 10
    · rw [decDigits_small hs, List.mem_singleton] at hc
      rw [hc, dig_byte hs]; omega
    · rw [decDigits_big hs, List.mem_append, List.mem_singleton] at hc
      rcases hc with hc | rfl
      · cases k with
        | zero => omega
        | succ k => exact decDigits_all k (u / 10) (by omega) c hc
      · rw [dig_byte (by omega)]; omega
theorem decDigits_head : ∀ (k u : Nat), u ≤ k → 0 < u → ∃ c r, Lib.decDigits u = c :: r ∧ 49 ≤ c.toNat ∧ c.toNat ≤ 57
  | k, u, hk, h0 => by
    by_cases hs : u < 10
    · exact ⟨_, [], decDigits_small hs, by rw [dig_byte hs]; omega, by rw [dig_byte hs]; omega⟩
    · cases k with
      | zero => omega
      | succ k =>
        obtain ⟨c, r, h1, h2, h3⟩ := decDigits_head k (u / 10) (by omega) (by omega)
        exact ⟨c, r ++ [UInt8.ofNat (48 + u % 10)], by rw [decDigits_big hs, h1]; rfl, h2, h3⟩

theorem parseM_append (M : Nat) : ∀ (a b : List UInt8) (acc x : Nat), Lib.parseUintM M acc a = .ok x → Lib.parseUintM M acc (a ++ b) = Lib.parseUintM M x b
  | [], b, acc, x, h => by
    simp only [Lib.parseUintM] at h
    injection h with h
    rw [h]; rfl
  | c :: r, b, acc, x, h => by
    rw [List.cons_append]
    simp only [Lib.parseUintM] at h ⊢
    split at h
    · split at h
      · cases h
      · split at h
        · cases h
        · rename_i h1 h2 h3
          rw [if_pos h1, if_neg h2, if_neg h3]
          exact parseM_append M r b _ x h
    · cases h
theorem parseM_digits (M : Nat) (hM : M < 18446744073709551616) : ∀ (k u : Nat), u ≤ k → u ≤ M → Lib.parseUintM M 0 (Lib.decDigits u) = .ok u
  | k, u, hk, hu => by
    by_cases hs : u < 10
    · rw [decDigits_small hs]
      simp only [Lib.parseUintM, dig_byte hs]
      rw [if_pos (by omega), if_neg (by omega), if_neg (by omega)]
      congr 1
      omega
    · cases k with
      | zero => omega
      | succ k =>
        rw [decDigits_big hs, parseM_append M _ _ _ _ (parseM_digits M hM k (u / 10) (by omega) (by omega))]
        simp only [Lib.parseUintM, dig_byte (show u % 10 < 10 by omega)]
        rw [if_pos (by omega), if_neg (by omega), if_neg (by omega)]
        congr 1
        omega
theorem parseM_lt (M : Nat) : ∀ (l : List UInt8) (acc u : Nat), Lib.parseUintM M acc l = .ok u → u < (acc + 1) * 10 ^ l.length
  | [], acc, u, h => by
    simp only [Lib.parseUintM] at h
    injection h with h
    simp; omega
  | c :: r, acc, u, h => by
    simp only [Lib.parseUintM] at h
    split at h
    · split at h
      · cases h
      · split at h
        · cases h
        · have := parseM_lt M r _ u h
          rw [List.length_cons, Nat.pow_succ]
          have h2 : (acc * 10 + (c.toNat - 48) + 1) * 10 ^ r.length ≤ ((acc + 1) * 10) * 10 ^ r.length := Nat.mul_le_mul_right _ (by omega)
          have h3 : (acc + 1) * 10 * 10 ^ r.length = (acc + 1) * (10 ^ r.length * 10) := by
            rw [Nat.mul_assoc, Nat.mul_comm 10]
          omega
    · cases h
theorem parseB_len {l : List UInt8} {u : Nat} (h : Lib.parseUintB 64 l = .ok u) : (Lib.decDigits u).length ≤ l.length := by
  unfold Lib.parseUintB at h
  split at h
  · cases h
  · rename_i hne
    have h1 := parseM_lt _ l 0 u h
    rw [Lib.decDigits_length]
    cases l with
    | nil => exact absurd rfl hne
    | cons c r => exact nDigits_le r.length u (by rw [List.length_cons] at h1; omega)
theorem parseB_digits {u : Nat} (hu : u < 18446744073709551616) : Lib.parseUintB 64 (Lib.decDigits u) = .ok u := by
  unfold Lib.parseUintB
  have hne : Lib.decDigits u ≠ [] := by
    intro x
    have := Lib.decDigits_length u
    rw [x] at this
    have := Lib.nDigits_pos u
    simp at *
    omega
  rw [if_neg hne]
  exact parseM_digits _ (by decide) u u (Nat.le_refl _) (by omega)

/-- No digit stands ahead. -/
def stops (rest : List UInt8) : Prop := ∀ c r, rest = c :: r → isDigit c = false

theorem takeWhile_stops : ∀ (a rest : List UInt8), (∀ c ∈ a, 48 ≤ c.toNat ∧ c.toNat ≤ 57) → stops rest → (a ++ rest).takeWhile isDigit = a
  | [], rest, _, h => by
    cases rest with
    | nil => rfl
    | cons c r => simp [h c r rfl]
  | c :: a, rest, ha, h => by
    have hc := ha c (by simp)
    have : isDigit c = true := by
      unfold isDigit
      simp only [decide_eq_true_eq, UInt8.le_iff_toNat_le]
      exact hc
    rw [List.cons_append, List.takeWhile_cons, if_pos this, takeWhile_stops a rest (fun b hb => ha b (by simp [hb])) h]
theorem digits_dec (u : Nat) (rest : List UInt8) (h : stops rest) : digits (Lib.decDigits u ++ rest) = Lib.decDigits u := by
  by_cases h0 : u = 0
  · subst h0
    rw [decDigits_small (by decide)]
    rfl
  · obtain ⟨c, r, e, h1, h2⟩ := decDigits_head u u (Nat.le_refl _) (by omega)
    have hall := decDigits_all u u (Nat.le_refl _)
    have key := takeWhile_stops _ rest hall h
    rw [e] at key ⊢
    show (if c = 48 then _ else _) = _
    have : c ≠ 48 := by intro x; subst x; simp at h1
    rw [if_neg this]
    exact key
theorem number_itoa (n : Int) (h1 : -9223372036854775808 ≤ n) (h2 : n ≤ 9223372036854775807) (rest : List UInt8) (h : stops rest) : number (Lib.itoa n ++ rest) = .ok n rest := by
  by_cases hn : n < 0
  · obtain ⟨u, rfl⟩ : ∃ u : Nat, n = -(u : Int) := ⟨n.natAbs, by omega⟩
    rw [Lib.itoa_neg u (by omega)]
    have hs : sign (45 :: Lib.decDigits u ++ rest) = 1 := rfl
    have hl : numLen (45 :: Lib.decDigits u ++ rest) = 1 + (Lib.decDigits u).length := by
      unfold numLen
      rw [hs]
      show 1 + (digits (Lib.decDigits u ++ rest)).length = _
      rw [digits_dec u rest h]
    have hpos : 0 < (Lib.decDigits u).length := by rw [Lib.decDigits_length]; exact Lib.nDigits_pos u
    unfold number
    rw [hl, hs, if_neg (by omega)]
    have ht : (45 :: Lib.decDigits u ++ rest).take (1 + (Lib.decDigits u).length) = 45 :: Lib.decDigits u := by
      rw [List.take_append_of_le_length (by simp; omega), List.take_of_length_le (by simp; omega)]
    have hd : (45 :: Lib.decDigits u ++ rest).drop (1 + (Lib.decDigits u).length) = rest := by
      rw [List.drop_append_of_le_length (by simp; omega), List.drop_of_length_le (by simp; omega)]; rfl
    rw [ht, hd, Lib.parseIntB_minus, parseB_digits (by omega)]
    simp only [Lib.signedC]
    rw [if_neg (by omega)]
  · obtain ⟨u, rfl⟩ : ∃ u : Nat, n = u := ⟨n.toNat, by omega⟩
    rw [Lib.itoa_nonneg]
    have hpos : 0 < (Lib.decDigits u).length := by rw [Lib.decDigits_length]; exact Lib.nDigits_pos u
    obtain ⟨c, r, e⟩ : ∃ c r, Lib.decDigits u = c :: r := by
      cases hx : Lib.decDigits u with
      | nil => rw [hx] at hpos; simp at hpos
      | cons c r => exact ⟨c, r, rfl⟩
    have hc := decDigits_all u u (Nat.le_refl _) c (by rw [e]; simp)
    have n45 : c ≠ 45 := by intro x; subst x; simp at hc
    have hs : sign (Lib.decDigits u ++ rest) = 0 := by
      rw [e]
      show (if c = 45 then 1 else 0) = 0
      rw [if_neg n45]
    have hl : numLen (Lib.decDigits u ++ rest) = (Lib.decDigits u).length := by
      unfold numLen
      rw [hs, List.drop_zero, digits_dec u rest h, Nat.zero_add]
    unfold number
    rw [hl, hs, if_neg (by omega)]
    rw [List.take_append_of_le_length (Nat.le_refl _), List.take_of_length_le (Nat.le_refl _), List.drop_append_of_le_length (Nat.le_refl _), List.drop_of_length_le (Nat.le_refl _)]
    have hp : Lib.parseIntB 64 (Lib.decDigits u) = Lib.signlessC (2 ^ 63) (Lib.parseUintB 64 (Lib.decDigits u)) := by
      rw [e]
      exact Lib.parseIntB_plain 64 c r (by omega) (fun x => n45 (by rw [← UInt8.ofNat_toNat (x := c), x]; rfl))
    rw [hp, parseB_digits (by omega)]
    simp only [Lib.signlessC]
    rw [if_neg (by omega)]
    rfl

theorem digits_le : ∀ l : List UInt8, (digits l).length ≤ l.length
  | [] => Nat.le_refl _
  | c :: r => by
    show (if c = 48 then [48] else (c :: r).takeWhile isDigit).length ≤ _
    split
    · simp
    · exact (List.takeWhile_sublist _).length_le
theorem mem_takeWhile_imp' {p : UInt8 → Bool} : ∀ {l : List UInt8} {c : UInt8}, c ∈ l.takeWhile p → p c = true
  | [], c, h => by simp at h
  | d :: l, c, h => by
    rw [List.takeWhile_cons] at h
    split at h
    · rename_i hd
      rcases List.mem_cons.1 h with rfl | h
      · exact hd
      · exact mem_takeWhile_imp' h
    · simp at h
theorem digits_all (l : List UInt8) : ∀ c ∈ digits l, 48 ≤ c.toNat ∧ c.toNat ≤ 57 := by
  cases l with
  | nil => intro c h; simp [digits] at h
  | cons d r =>
    show ∀ c ∈ (if d = 48 then [48] else (d :: r).takeWhile isDigit), _
    intro c hc
    split at hc
    · rw [List.mem_singleton] at hc; subst hc; decide
    · have := mem_takeWhile_imp' hc
      unfold isDigit at this
      simpa [UInt8.le_iff_toNat_le] using this
theorem take_digits (l : List UInt8) : l.take (digits l).length = digits l := by
  cases l with
  | nil => rfl
  | cons d r =>
    show (d :: r).take (if d = 48 then [48] else (d :: r).takeWhile isDigit).length = (if d = 48 then [48] else (d :: r).takeWhile isDigit)
    split
    · rename_i h; rw [h]; rfl
    · exact List.prefix_iff_eq_take.1 (List.takeWhile_prefix _) |>.symm
theorem sign_le (l : List UInt8) : sign l ≤ l.length ∧ sign l ≤ 1 := by
  unfold sign
  cases l with
  | nil => simp
  | cons c r => dsimp only; split <;> simp
/-- What a numeral reads as: an int64; told in no more bytes. -/
theorem number_ok {l r : List UInt8} {v : Int} (h : number l = .ok v r) : (-9223372036854775808 ≤ v ∧ v ≤ 9223372036854775807) ∧ (Lib.itoa v).length + r.length ≤ l.length ∧ r.length < l.length := by
  unfold number at h
  split at h
  · cases h
  · rename_i hne
    split at h
    · rename_i v' hp
      injection h with h1 h2
      subst h1
      have hk : numLen l ≤ l.length := by
        unfold numLen
        have := digits_le (l.drop (sign l))
        rw [List.length_drop] at this
        have := (sign_le l).1
        omega
      have hr : r.length = l.length - numLen l := by rw [← h2, List.length_drop]
      have hgt : sign l < numLen l := by unfold numLen at hne ⊢; omega
      have hds : (l.take (numLen l)).drop (sign l) = digits (l.drop (sign l)) := by
        rw [List.drop_take, show numLen l - sign l = (digits (l.drop (sign l))).length by unfold numLen; omega, take_digits]
      have hall := digits_all (l.drop (sign l))
      have htl : (l.take (numLen l)).length = numLen l := by rw [List.length_take]; omega
      cases l with
      | nil => simp at hk; omega
      | cons c t =>
        by_cases h45 : c = 45
        · subst h45
          have hs : sign (45 :: t) = 1 := rfl
          rw [hs] at hds hgt hall
          obtain ⟨k, hk'⟩ : ∃ k, numLen (45 :: t) = k + 1 := ⟨numLen (45 :: t) - 1, by omega⟩
          rw [hk'] at hp htl hds hr hgt
          rw [List.take_succ_cons] at hp htl
          rw [Lib.parseIntB_minus] at hp
          obtain ⟨u, hu⟩ : ∃ u, Lib.parseUintB 64 (t.take k) = .ok u := by
            cases hx : Lib.parseUintB 64 (t.take k) with
            | ok u => exact ⟨u, rfl⟩
            | _ => rw [hx] at hp; cases hp
          · rw [hu] at hp
            simp only [Lib.signedC] at hp
            split at hp
            · cases hp
            · rename_i hle
              injection hp with hp
              have hlen := parseB_len hu
              simp only [List.length_cons] at htl
              have : (Lib.itoa v').length ≤ k + 1 := by
                rw [← hp]
                by_cases h0 : u = 0
                · subst h0
                  rw [show (-((0 : Nat) : Int)) = ((0 : Nat) : Int) by rfl, Lib.itoa_nonneg]
                  omega
                · rw [Lib.itoa_neg u (by omega), List.length_cons]
                  omega
              refine ⟨⟨by omega, by omega⟩, by omega, by omega⟩
        · have hs : sign (c :: t) = 0 := by show (if c = 45 then 1 else 0) = 0; rw [if_neg h45]
          rw [hs] at hds hgt hall
          simp only [List.drop_zero] at hds hall
          obtain ⟨k, hk'⟩ : ∃ k, numLen (c :: t) = k + 1 := ⟨numLen (c :: t) - 1, by omega⟩
          rw [hk'] at hp htl hds hr hgt
          rw [List.take_succ_cons] at hp htl hds
          have hc := hall c (by rw [← hds]; simp)
          rw [Lib.parseIntB_plain 64 c _ (by omega) (by omega)] at hp
          obtain ⟨u, hu⟩ : ∃ u, Lib.parseUintB 64 (c :: t.take k) = .ok u := by
            cases hx : Lib.parseUintB 64 (c :: t.take k) with
            | ok u => exact ⟨u, rfl⟩
            | _ => rw [hx] at hp; cases hp
          · rw [hu] at hp
            simp only [Lib.signlessC] at hp
            split at hp
            · cases hp
            · rename_i hle
              injection hp with hp
              have hlen := parseB_len hu
              rw [htl] at hlen
              have : (Lib.itoa v').length ≤ k + 1 := by
                rw [← hp, Lib.itoa_nonneg]; omega
              refine ⟨⟨by omega, by omega⟩, by omega, by omega⟩
    · cases h

theorem hexVal_range {c : UInt8} {d : Int} (h : hexVal c = some d) : 0 ≤ d ∧ d < 16 := by
  unfold hexVal at h
  simp only [UInt8.le_iff_toNat_le] at h
  split at h
  · rename_i hh
    injection h with h
    simp at hh; omega
  · split at h
    · rename_i hh
      injection h with h
      simp at hh; omega
    · split at h
      · rename_i hh
        injection h with h
        simp at hh; omega
      · cases h
theorem units_ok : ∀ (k : Nat) (n : Int) (l r : List UInt8) (x : Int), 0 ≤ n → units k n l = .ok x r → 0 ≤ x ∧ x < (n + 1) * 16 ^ k ∧ r.length + k = l.length
  | 0, n, l, r, x, h0, h => by
    unfold units at h
    injection h with h1 h2
    subst h1 h2
    simp; omega
  | k + 1, n, [], r, x, h0, h => by unfold units at h; cases h
  | k + 1, n, c :: l, r, x, h0, h => by
    unfold units at h
    cases hc : hexVal c with
    | none => rw [hc] at h; cases h
    | some d =>
      rw [hc] at h
      have hd := hexVal_range hc
      obtain ⟨h1, h2, h3⟩ := units_ok k (16 * n + d) l r x (by omega) h
      refine ⟨h1, ?_, by simp; omega⟩
      have hp : (0 : Int) ≤ 16 ^ k := Int.le_of_lt (Int.pow_pos (by decide))
      have h4 : (16 * n + d + 1) * 16 ^ k ≤ ((n + 1) * 16) * 16 ^ k := Int.mul_le_mul_of_nonneg_right (by omega) hp
      have h5 : (n + 1) * 16 * (16 : Int) ^ k = (n + 1) * 16 ^ (k + 1) := by rw [Int.mul_assoc, Int.pow_succ, Int.mul_comm 16]
      omega
theorem unit_ok {l r : List UInt8} {x : Int} (h : unit l = .ok x r) : 0 ≤ x ∧ x < 65536 ∧ r.length + 4 = l.length := by
  have := units_ok 4 0 l r x (by decide) h
  omega
theorem word_ok {s l r : List UInt8} {u : Unit} (h : word s l = .ok u r) : l = s ++ r := by
  unfold word at h
  split at h
  · rename_i hp
    injection h with h1 h2
    obtain ⟨t, rfl⟩ := List.isPrefixOf_iff_prefix.1 hp
    rw [← h2, List.drop_append_of_le_length (Nat.le_refl _), List.drop_of_length_le (Nat.le_refl _)]
    rfl
  · cases h
theorem letter_ok {c : UInt8} {n : Int} (h : letter c = some n) : isRune n = true ∧ ((utf8 n).flatMap esc).length ≤ 2 := by
  have key : ∀ k < 256, (match letter (UInt8.ofNat k) with | some n => isRune n && decide (((utf8 n).flatMap esc).length ≤ 2) | none => true) = true := by decide +kernel
  have := key c.toNat c.toNat_lt
  rw [UInt8.ofNat_toNat, h] at this
  simpa using this
theorem esc_six (c : UInt8) : (esc c).length ≤ 6 := by
  unfold esc
  repeat' split
  all_goals simp
theorem utf8_flat {n : Int} (h : isRune n = true) : ((utf8 n).flatMap esc).length ≤ 6 ∧ (128 ≤ n → ((utf8 n).flatMap esc).length ≤ 4) := by
  obtain ⟨h0, h1⟩ := rune_range h
  by_cases hs : n < 128
  · rw [utf8_small h0 hs]
    simp only [List.flatMap_cons, List.flatMap_nil, List.append_nil]
    exact ⟨esc_six _, fun x => by omega⟩
  · obtain ⟨_, l2, l4, hh⟩ := utf8_big (by omega) h1 h
    rw [flat_high hh]
    exact ⟨by omega, fun _ => l4⟩
theorem escape_ok {l r : List UInt8} {n : Int} (h : escape l = .ok n r) : isRune n = true ∧ ((utf8 n).flatMap esc).length + r.length ≤ l.length + 1 ∧ r.length < l.length := by
  unfold escape at h
  cases l with
  | nil => cases h
  | cons c t =>
    simp only at h
    cases hl : letter c with
    | some m =>
      rw [hl] at h
      injection h with h1 h2
      subst h1 h2
      have := letter_ok hl
      exact ⟨this.1, by simp only [List.length_cons]; omega, by simp⟩
    | none =>
      rw [hl] at h
      simp only at h
      split at h
      · cases hu : unit t with
        | err e => rw [hu] at h; cases h
        | ok m r1 =>
          rw [hu] at h
          have hm := unit_ok hu
          simp only at h
          split at h
          · rename_i hsur
            unfold low at h
            cases hw : word [92, 117] r1 with
            | err e => rw [hw] at h; cases h
            | ok u l1 =>
              rw [hw] at h
              have e1 := word_ok hw
              simp only at h
              cases hu2 : unit l1 with
              | err e => rw [hu2] at h; cases h
              | ok m2 l2 =>
                rw [hu2] at h
                have hm2 := unit_ok hu2
                simp only at h
                split at h
                · rename_i hlow
                  injection h with h1 h2
                  subst h1 h2
                  have hr : isRune (65536 + (m - 55296) * 1024 + m2 - 56320) = true := by unfold isRune; simp only [decide_eq_true_eq]; omega
                  have hf := (utf8_flat hr).2 (by omega)
                  have e2 := congrArg List.length e1
                  simp only [List.length_append, List.length_cons, List.length_nil] at e2
                  exact ⟨hr, by simp only [List.length_cons]; omega, by simp only [List.length_cons]; omega⟩
                · cases h
          · split at h
            · rename_i hr
              injection h with h1 h2
              subst h1 h2
              have hf := (utf8_flat hr).1
              exact ⟨hr, by simp only [List.length_cons]; omega, by simp only [List.length_cons]; omega⟩
            · cases h
      · cases h

/-- What is read of a text: valid; quoted in no more bytes. -/
theorem loop_ok : ∀ (f : Nat) (acc l r s : List UInt8), textLoop f acc l = .ok s r → Lib.validD acc = true →
    Lib.validD s = true ∧ (s.flatMap esc).length + r.length + 1 ≤ (acc.flatMap esc).length + l.length ∧ r.length < l.length
  | 0, acc, l, r, s, h, _ => by unfold textLoop at h; cases h
  | f + 1, acc, [], r, s, h, _ => by unfold textLoop at h; cases h
  | f + 1, acc, c :: t, r, s, h, hv => by
    unfold textLoop at h
    split at h
    · injection h with h1 h2
      subst h1 h2
      exact ⟨hv, by simp only [List.length_cons]; omega, by simp⟩
    · split at h
      · cases he : escape t with
        | err e => rw [he] at h; cases h
        | ok n rest =>
          rw [he] at h
          obtain ⟨h1, h2, h3⟩ := escape_ok he
          obtain ⟨g1, g2, g3⟩ := loop_ok f _ rest r s h (valid_app hv (valid_utf8 h1))
          rw [List.flatMap_append, List.length_append] at g2
          exact ⟨g1, by simp only [List.length_cons]; omega, by simp only [List.length_cons]; omega⟩
      · rename_i n34 n92
        split at h
        · rename_i hp
          have hne : c :: t ≠ [] := by simp
          unfold plain at hp
          simp only [decide_eq_true_eq] at hp
          have g0 : (c :: t).getD 0 0 = c := rfl
          rcases decode_shape hne with ⟨hc, e⟩ | ⟨hc, c1, c2, c3, c4, c5⟩ | ⟨hc, e⟩
          · rw [g0] at hc e
            rw [e] at h hp
            simp only [List.take_succ_cons, List.take_zero, List.drop_succ_cons, List.drop_zero] at h
            obtain ⟨g1, g2, g3⟩ := loop_ok f _ t r s h (valid_app hv (by rw [Lib.validD_cons c [] hc]; rfl))
            have hes : (esc c).length = 1 := by
              have key : ∀ n < 128, 32 ≤ n → UInt8.ofNat n ≠ 34 → UInt8.ofNat n ≠ 92 → (esc (UInt8.ofNat n)).length = 1 := by decide +kernel
              have := key c.toNat hc (by omega)
              rw [UInt8.ofNat_toNat] at this
              exact this n34 n92
            rw [List.flatMap_append, List.length_append, List.flatMap_cons, List.flatMap_nil, List.append_nil, hes] at g2
            exact ⟨g1, by simp only [List.length_cons]; omega, by simp only [List.length_cons]; omega⟩
          · have hvt : Lib.validD ((c :: t).take (decode (c :: t)).2) = true := by
              have hne2 : (c :: t).take (decode (c :: t)).2 ≠ [] := by
                intro x
                have := congrArg List.length x
                rw [List.length_take, List.length_nil] at this
                omega
              have hd : decode ((c :: t).take (decode (c :: t)).2) = decode (c :: t) := decode_take hne c3 (by rw [List.take_take, Nat.min_self])
              rw [valid_step hne2, hd, if_neg (by omega), List.drop_of_length_le (by rw [List.length_take]; omega)]
              rfl
            obtain ⟨g1, g2, g3⟩ := loop_ok f _ _ r s h (valid_app hv hvt)
            rw [List.flatMap_append, List.length_append, flat_high c5, List.length_take, List.length_drop, Nat.min_eq_left c4] at g2
            rw [List.length_drop] at g3
            exact ⟨g1, by omega, by omega⟩
          · rw [e] at hp; omega
        · cases h
theorem text_ok {l r s : List UInt8} (h : text l = .ok s r) : Lib.validD s = true ∧ (quoted s).length + r.length ≤ l.length ∧ r.length < l.length := by
  unfold text at h
  cases l with
  | nil => cases h
  | cons c t =>
    simp only at h
    split at h
    · obtain ⟨h1, h2, h3⟩ := loop_ok _ [] t r s h rfl
      simp only [List.flatMap_nil, List.length_nil] at h2
      refine ⟨h1, ?_, by simp only [List.length_cons]; omega⟩
      unfold quoted
      simp only [List.length_append, List.length_cons, List.length_nil]
      omega
    · cases h
theorem quoted_len2 (s : List UInt8) : s.length + 2 ≤ (quoted s).length := by
  have : s.length ≤ (s.flatMap esc).length := by
    induction s with
    | nil => simp
    | cons c s ih =>
      rw [List.flatMap_cons, List.length_append, List.length_cons]
      have : 1 ≤ (esc c).length := by
        unfold esc
        repeat' split
        all_goals simp
      omega
  unfold quoted
  simp only [List.length_append, List.length_cons, List.length_nil]
  omega
end Go.Proofs.YtcmlppknfbndaaaDoor.Js
