/-
  PLAIN LAWS OF TEXTS: what is quoted is read again as it was; what is read is valid and is quoted in no more bytes. Conditions: each lemma's own.
-/
import Derived.Test.YtcmlppknfbndaaaDoorSpec
import Derived.Lib.MapLaws
import Derived.Lib.ValidLaws
namespace Go.Proofs.YtcmlppknfbndaaaDoor.Js
open Go

theorem decode_L {l : List UInt8} (h : l ≠ []) : decode l = Lib.decodeL l := by
  unfold decode
  rw [if_neg (by simpa using h), Lib.decodeL_N]
theorem decode_nil : decode [] = (65533, 0) := rfl

/-- The five shapes of what is decoded. -/
theorem decode_shape {l : List UInt8} (h : l ≠ []) :
    ((l.getD 0 0).toNat < 128 ∧ decode l = ((l.getD 0 0).toNat, 1)) ∨
    (128 ≤ (l.getD 0 0).toNat ∧ 128 ≤ (decode l).1 ∧ ((decode l).1 < 55296 ∨ 57344 ≤ (decode l).1 ∧ (decode l).1 ≤ 1114111) ∧ 2 ≤ (decode l).2 ∧ (decode l).2 ≤ l.length ∧ ∀ b ∈ l.take (decode l).2, 128 ≤ b.toNat) ∨
    (128 ≤ (l.getD 0 0).toNat ∧ decode l = (65533, 1)) := by
  have hl : 0 < l.length := List.length_pos_iff.2 h
  have k0 := (l.getD 0 0).toNat_lt
  have k1 := (l.getD 1 0).toNat_lt
  have k2 := (l.getD 2 0).toNat_lt
  have k3 := (l.getD 3 0).toNat_lt
  rw [decode_L h, Lib.decodeL_N]
  rcases Lib.decodeN_shape l.length (l.getD 0 0).toNat (l.getD 1 0).toNat (l.getD 2 0).toNat (l.getD 3 0).toNat with ⟨c, e⟩ | ⟨c1, c2, c3, cv, e⟩ | ⟨c1, c2, c3, c4, cv, cs, e⟩ | ⟨c1, c2, c3, c4, c5, cv, cw, e⟩ | e
  · exact .inl ⟨c, e⟩
  · refine .inr (.inl ?_)
    rw [e]
    refine ⟨by omega, by simp only; omega, by simp only; omega, by simp, c2, ?_⟩
    simp only
    rw [Lib.takeB l c2]
    intro b hb
    simp only [List.mem_cons, List.not_mem_nil, or_false] at hb
    rcases hb with rfl | rfl <;> omega
  · refine .inr (.inl ?_)
    rw [e]
    refine ⟨by omega, by simp only; omega, by simp only; omega, by simp, c2, ?_⟩
    simp only
    rw [Lib.takeC l c2]
    intro b hb
    simp only [List.mem_cons, List.not_mem_nil, or_false] at hb
    rcases hb with rfl | rfl | rfl <;> omega
  · refine .inr (.inl ?_)
    rw [e]
    refine ⟨by omega, by simp only; omega, by simp only; omega, by simp, c2, ?_⟩
    simp only
    rw [Lib.takeD l c2]
    intro b hb
    simp only [List.mem_cons, List.not_mem_nil, or_false] at hb
    rcases hb with rfl | rfl | rfl | rfl <;> omega
  · by_cases c : (l.getD 0 0).toNat < 128
    · left
      rw [Lib.decodeN_ascii _ _ _ _ _ c]
      exact ⟨c, rfl⟩
    · exact .inr (.inr ⟨by omega, e⟩)

theorem getD_append_left (a b : List UInt8) (i : Nat) (h : i < a.length) : (a ++ b).getD i 0 = a.getD i 0 := by
  simp [List.getD, List.getElem?_append_left h]

/-- What is decoded stands in the bytes that it takes: others may follow. -/
theorem decode_take {l m : List UInt8} (h : l ≠ []) (h1 : 2 ≤ (decode l).2) (hm : m.take (decode l).2 = l.take (decode l).2) : decode m = decode l := by
  have hl : 0 < l.length := List.length_pos_iff.2 h
  have key : ∀ i, i < (decode l).2 → m.getD i 0 = l.getD i 0 := fun i hi => by
    rw [← Lib.getD_takeU m _ i hi, hm, Lib.getD_takeU l _ i hi]
  have hlen : (decode l).2 ≤ l.length → (decode l).2 ≤ m.length := fun hle => by
    have := congrArg List.length hm
    rw [List.length_take, List.length_take] at this
    omega
  have k0 := (l.getD 0 0).toNat_lt
  have hd := decode_L h
  rw [Lib.decodeL_N] at hd
  rcases Lib.decodeN_shape l.length (l.getD 0 0).toNat (l.getD 1 0).toNat (l.getD 2 0).toNat (l.getD 3 0).toNat with ⟨c, e⟩ | ⟨c1, c2, c3, cv, e⟩ | ⟨c1, c2, c3, c4, cv, cs, e⟩ | ⟨c1, c2, c3, c4, c5, cv, cw, e⟩ | e
  · rw [e] at hd; rw [hd] at h1; simp at h1
  · rw [e] at hd
    rw [hd] at key hlen ⊢
    have hm2 : 2 ≤ m.length := hlen c2
    have hmne : m ≠ [] := by intro x; subst x; simp at hm2
    rw [decode_L hmne, Lib.decodeL_N, key 0 (by simp), key 1 (by simp)]
    unfold Lib.decodeN
    rw [if_neg (by omega), if_pos (by omega), if_pos (by omega)]
  · rw [e] at hd
    rw [hd] at key hlen ⊢
    have hm2 : 3 ≤ m.length := hlen c2
    have hmne : m ≠ [] := by intro x; subst x; simp at hm2
    rw [decode_L hmne, Lib.decodeL_N, key 0 (by simp), key 1 (by simp), key 2 (by simp)]
    unfold Lib.decodeN
    rw [if_neg (by omega), if_neg (by omega), if_pos (by omega), if_pos (by omega)]
  · rw [e] at hd
    rw [hd] at key hlen ⊢
    have hm2 : 4 ≤ m.length := hlen c2
    have hmne : m ≠ [] := by intro x; subst x; simp at hm2
    rw [decode_L hmne, Lib.decodeL_N, key 0 (by simp), key 1 (by simp), key 2 (by simp), key 3 (by simp)]
    unfold Lib.decodeN
    rw [if_neg (by omega), if_neg (by omega), if_neg (by omega), if_pos (by omega), if_pos (by omega)]
  · rw [e] at hd; rw [hd] at h1; simp at h1

theorem valid_step {l : List UInt8} (h : l ≠ []) : Lib.validD l = if (decode l).1 = 65533 ∧ (decode l).2 = 1 then false else Lib.validD (l.drop (decode l).2) := by
  rw [Lib.validD_step l h, decode_L h]

/-- Valid bytes behind valid ones are valid. -/
theorem valid_append : ∀ (k : Nat) (a b : List UInt8), a.length ≤ k → Lib.validD a = true → Lib.validD b = true → Lib.validD (a ++ b) = true
  | 0, a, b, hk, _, hb => by
    obtain rfl : a = [] := List.eq_nil_of_length_eq_zero (by omega)
    exact hb
  | k + 1, a, b, hk, ha, hb => by
    by_cases hne : a = []
    · subst hne; exact hb
    · have hab : a ++ b ≠ [] := by simp [hne]
      have hpos : 0 < a.length := List.length_pos_iff.2 hne
      have hg : (a ++ b).getD 0 0 = a.getD 0 0 := getD_append_left a b 0 hpos
      rcases decode_shape hne with ⟨c, e⟩ | ⟨c0, c1, c2, c3, c4, _⟩ | ⟨c, e⟩
      · have e2 : decode (a ++ b) = decode a := by
          rcases decode_shape hab with ⟨d, e'⟩ | ⟨d, _⟩ | ⟨d, _⟩
          · rw [e', e, hg]
          · rw [hg] at d; omega
          · rw [hg] at d; omega
        rw [valid_step hne, e] at ha
        rw [valid_step hab, e2, e]
        have hn : ¬ ((a.getD 0 0).toNat = 65533 ∧ True) := by omega
        simp only at ha ⊢
        rw [if_neg hn] at ha ⊢
        rw [List.drop_append_of_le_length (by omega)]
        exact valid_append k _ b (by rw [List.length_drop]; omega) ha hb
      · have e2 : decode (a ++ b) = decode a := decode_take hne c3 (by rw [List.take_append_of_le_length c4])
        rw [valid_step hne] at ha
        rw [valid_step hab, e2]
        have hn : ¬ ((decode a).1 = 65533 ∧ (decode a).2 = 1) := by omega
        rw [if_neg hn] at ha ⊢
        rw [List.drop_append_of_le_length c4]
        exact valid_append k _ b (by rw [List.length_drop]; omega) ha hb
      · rw [valid_step hne, e] at ha
        simp at ha
theorem valid_app {a b : List UInt8} (ha : Lib.validD a = true) (hb : Lib.validD b = true) : Lib.validD (a ++ b) = true := valid_append a.length a b (Nat.le_refl _) ha hb

theorem utf8_eq (n : Int) : utf8 n = Lib.encodeRune n := rfl
/-- A rune's bytes: valid; no more than four; all from 128 on, where it is no ASCII. -/
theorem utf8_small {n : Int} (h0 : 0 ≤ n) (h1 : n < 128) : utf8 n = [UInt8.ofNat n.toNat] := by
  unfold utf8
  rw [Lib.encodeRuneZ_one h0 (by omega)]
  rfl
theorem ofNat_toNat {x : Nat} (h : x < 256) : (UInt8.ofNat x).toNat = x := by simp; omega
theorem utf8_big {n : Int} (h0 : 128 ≤ n) (h1 : n ≤ 1114111) (hr : isRune n = true) : decode (utf8 n) = (n.toNat, (utf8 n).length) ∧ 2 ≤ (utf8 n).length ∧ (utf8 n).length ≤ 4 ∧ ∀ b ∈ utf8 n, 128 ≤ b.toNat := by
  unfold isRune at hr
  simp only [decide_eq_true_eq] at hr
  unfold utf8
  by_cases a : n ≤ 2047
  · rw [Lib.encodeRuneZ_two h0 a]
    have e1 : (UInt8.ofNat (192 + n / 64).toNat).toNat = (192 + n / 64).toNat := ofNat_toNat (by omega)
    have e2 : (UInt8.ofNat (128 + n % 64).toNat).toNat = (128 + n % 64).toNat := ofNat_toNat (by omega)
    refine ⟨?_, by simp, by simp, ?_⟩
    · rw [decode_L (by simp), Lib.decodeL_N]
      simp only [List.map_cons, List.map_nil, List.length_cons, List.length_nil, List.getD_cons_zero, List.getD_cons_succ, e1, e2]
      unfold Lib.decodeN
      rw [if_neg (by omega), if_pos (by omega), if_pos (by omega)]
      apply Prod.ext <;> simp only <;> omega
    · intro b hb
      simp only [List.map_cons, List.map_nil, List.mem_cons, List.not_mem_nil, or_false] at hb
      rcases hb with rfl | rfl <;> omega
  · by_cases b : n ≤ 65535
    · rw [Lib.encodeRuneZ_three (by omega)]
      have e1 : (UInt8.ofNat (224 + n / 4096).toNat).toNat = (224 + n / 4096).toNat := ofNat_toNat (by omega)
      have e2 : (UInt8.ofNat (128 + n / 64 % 64).toNat).toNat = (128 + n / 64 % 64).toNat := ofNat_toNat (by omega)
      have e3 : (UInt8.ofNat (128 + n % 64).toNat).toNat = (128 + n % 64).toNat := ofNat_toNat (by omega)
      refine ⟨?_, by simp, by simp, ?_⟩
      · rw [decode_L (by simp), Lib.decodeL_N]
        simp only [List.map_cons, List.map_nil, List.length_cons, List.length_nil, List.getD_cons_zero, List.getD_cons_succ, e1, e2, e3]
        unfold Lib.decodeN
        rw [if_neg (by omega), if_neg (by omega), if_pos (by omega), if_pos (by omega)]
        apply Prod.ext <;> simp only <;> omega
      · intro b hb
        simp only [List.map_cons, List.map_nil, List.mem_cons, List.not_mem_nil, or_false] at hb
        rcases hb with rfl | rfl | rfl <;> omega
    · rw [Lib.encodeRuneZ_four (by omega) h1]
      have e1 : (UInt8.ofNat (240 + n / 262144).toNat).toNat = (240 + n / 262144).toNat := ofNat_toNat (by omega)
      have e2 : (UInt8.ofNat (128 + n / 4096 % 64).toNat).toNat = (128 + n / 4096 % 64).toNat := ofNat_toNat (by omega)
      have e3 : (UInt8.ofNat (128 + n / 64 % 64).toNat).toNat = (128 + n / 64 % 64).toNat := ofNat_toNat (by omega)
      have e4 : (UInt8.ofNat (128 + n % 64).toNat).toNat = (128 + n % 64).toNat := ofNat_toNat (by omega)
      refine ⟨?_, by simp, by simp, ?_⟩
      · rw [decode_L (by simp), Lib.decodeL_N]
        simp only [List.map_cons, List.map_nil, List.length_cons, List.length_nil, List.getD_cons_zero, List.getD_cons_succ, e1, e2, e3, e4]
        unfold Lib.decodeN
        rw [if_neg (by omega), if_neg (by omega), if_neg (by omega), if_pos (by omega), if_pos (by omega)]
        apply Prod.ext <;> simp only <;> omega
      · intro b hb
        simp only [List.map_cons, List.map_nil, List.mem_cons, List.not_mem_nil, or_false] at hb
        rcases hb with rfl | rfl | rfl | rfl <;> omega
theorem rune_range {n : Int} (hr : isRune n = true) : 0 ≤ n ∧ n ≤ 1114111 := by
  unfold isRune at hr
  simp only [decide_eq_true_eq] at hr
  omega
theorem valid_utf8 {n : Int} (hr : isRune n = true) : Lib.validD (utf8 n) = true := by
  obtain ⟨h0, h1⟩ := rune_range hr
  by_cases h : n < 128
  · rw [utf8_small h0 h, Lib.validD_cons _ _ (by rw [ofNat_toNat (by omega)]; omega)]
    rfl
  · obtain ⟨e, l2, l4, _⟩ := utf8_big (by omega) h1 hr
    have hne : utf8 n ≠ [] := by intro x; rw [x] at l2; simp at l2
    rw [valid_step hne, e, if_neg (by simp only; omega)]
    simp only [List.drop_length]
    rfl

theorem esc_high {c : UInt8} (h : 128 ≤ c.toNat) : esc c = [c] := by
  have key : ∀ n < 256, 128 ≤ n → esc (UInt8.ofNat n) = [UInt8.ofNat n] := by decide +kernel
  have := key c.toNat c.toNat_lt h
  rwa [UInt8.ofNat_toNat] at this
theorem flat_high : ∀ {l : List UInt8}, (∀ b ∈ l, 128 ≤ b.toNat) → l.flatMap esc = l
  | [], _ => rfl
  | c :: l, h => by
    rw [List.flatMap_cons, esc_high (h c (by simp)), flat_high (fun b hb => h b (by simp [hb]))]
    rfl
def okUnits (l : List UInt8) (x : Int) : Bool := match units 4 0 l with | .ok y [] => y == x | _ => false
theorem okUnits_eq {l : List UInt8} {x : Int} (h : okUnits l x = true) : units 4 0 l = .ok x [] := by
  unfold okUnits at h
  split at h
  · rename_i y heq
    rw [heq, beq_iff_eq.1 h]
  · cases h
/-- What an ASCII byte is quoted as: itself; or behind a backslash a letter, or four digits. -/
theorem esc_low {c : UInt8} (h : c.toNat < 128) : (esc c = [c] ∧ c ≠ 34 ∧ c ≠ 92 ∧ 32 ≤ c.toNat) ∨ (∃ d, esc c = [92, d] ∧ letter d = some (c.toNat : Int)) ∨
    (∃ d, ∃ e, esc c = [92, 117, 48, 48, d, e] ∧ units 4 0 [48, 48, d, e] = .ok (c.toNat : Int) [] ∧ c.toNat < 32 ∧ hexVal d ≠ none ∧ hexVal e ≠ none) := by
  have key : ∀ n < 128, ((esc (UInt8.ofNat n) = [UInt8.ofNat n] ∧ UInt8.ofNat n ≠ 34 ∧ UInt8.ofNat n ≠ 92 ∧ 32 ≤ n) ∨ (esc (UInt8.ofNat n) = [92, (esc (UInt8.ofNat n)).getD 1 0] ∧ letter ((esc (UInt8.ofNat n)).getD 1 0) = some (n : Int)) ∨
    (esc (UInt8.ofNat n) = [92, 117, 48, 48, (esc (UInt8.ofNat n)).getD 4 0, (esc (UInt8.ofNat n)).getD 5 0] ∧ okUnits [48, 48, (esc (UInt8.ofNat n)).getD 4 0, (esc (UInt8.ofNat n)).getD 5 0] (n : Int) = true ∧ n < 32 ∧ hexVal ((esc (UInt8.ofNat n)).getD 4 0) ≠ none ∧ hexVal ((esc (UInt8.ofNat n)).getD 5 0) ≠ none)) := by
    decide +kernel
  have := key c.toNat h
  rw [UInt8.ofNat_toNat] at this
  rcases this with h1 | ⟨h1, h2⟩ | ⟨h1, h2, h3, h4, h5⟩
  · exact .inl h1
  · exact .inr (.inl ⟨_, h1, h2⟩)
  · exact .inr (.inr ⟨_, _, h1, okUnits_eq h2, h3, h4, h5⟩)

theorem units_append : ∀ (k : Nat) (n : Int) (l m r : List UInt8) (x : Int), units k n l = .ok x r → units k n (l ++ m) = .ok x (r ++ m)
  | 0, n, l, m, r, x, h => by
    unfold units at h ⊢
    injection h with h1 h2
    rw [h1, h2]
  | k + 1, n, [], m, r, x, h => by unfold units at h; cases h
  | k + 1, n, c :: l, m, r, x, h => by
    rw [List.cons_append]
    unfold units at h ⊢
    cases hc : hexVal c with
    | none => rw [hc] at h; cases h
    | some d =>
      rw [hc] at h
      exact units_append k _ l m r x h

/-- A text's bytes, as they are quoted, are read back. -/
theorem loop_quoted : ∀ (k : Nat) (s : List UInt8), s.length ≤ k → Lib.validD s = true → ∀ (acc rest : List UInt8) (f : Nat), s.length < f →
    textLoop f acc (s.flatMap esc ++ 34 :: rest) = .ok (acc ++ s) rest
  | k, [], _, _, acc, rest, f, hf => by
    obtain ⟨f, rfl⟩ : ∃ g, f = g + 1 := ⟨f - 1, by omega⟩
    simp [textLoop]
  | 0, c :: s, hk, _, _, _, _, _ => by simp at hk
  | k + 1, c :: s, hk, hv, acc, rest, f, hf => by
    obtain ⟨f, rfl⟩ : ∃ g, f = g + 1 := ⟨f - 1, by omega⟩
    simp only [List.length_cons] at hk hf
    have hne : c :: s ≠ [] := by simp
    have g0 : (c :: s).getD 0 0 = c := rfl
    rcases decode_shape hne with ⟨hc, e⟩ | ⟨hc, c1, c2, c3, c4, c5⟩ | ⟨hc, e⟩
    · rw [g0] at hc e
      have hv' : Lib.validD s = true := by rw [Lib.validD_cons c s hc] at hv; exact hv
      have hu : utf8 (c.toNat : Int) = [c] := by rw [utf8_small (by omega) (by omega)]; simp
      rw [List.flatMap_cons]
      rcases esc_low hc with ⟨he, n34, n92, h32⟩ | ⟨d, he, hl⟩ | ⟨d, e', he, hl, _⟩
      · rw [he]
        have hd2 : decode (c :: (s.flatMap esc ++ 34 :: rest)) = (c.toNat, 1) := by
          rcases decode_shape (l := c :: (s.flatMap esc ++ 34 :: rest)) (by simp) with ⟨_, x⟩ | ⟨x, _⟩ | ⟨x, _⟩
          · exact x
          · simp only [List.getD_cons_zero] at x; omega
          · simp only [List.getD_cons_zero] at x; omega
        have hp : plain (c :: (s.flatMap esc ++ 34 :: rest)) = true := by
          unfold plain
          rw [hd2]
          simp only [decide_eq_true_eq]
          omega
        show textLoop (f + 1) acc (c :: (s.flatMap esc ++ 34 :: rest)) = _
        unfold textLoop
        rw [if_neg n34, if_neg n92, hp, if_pos rfl, hd2]
        simp only [List.take_succ_cons, List.take_zero, List.drop_succ_cons, List.drop_zero]
        rw [loop_quoted k s (by omega) hv' (acc ++ [c]) rest f (by omega)]
        simp
      · rw [he]
        show textLoop (f + 1) acc (92 :: d :: (s.flatMap esc ++ 34 :: rest)) = _
        unfold textLoop
        rw [if_neg (by decide), if_pos rfl]
        have hes : escape (d :: (s.flatMap esc ++ 34 :: rest)) = .ok (c.toNat : Int) (s.flatMap esc ++ 34 :: rest) := by
          unfold escape
          simp only [hl]
        rw [hes]
        simp only
        rw [hu, loop_quoted k s (by omega) hv' (acc ++ [c]) rest f (by omega)]
        simp
      · rw [he]
        show textLoop (f + 1) acc (92 :: 117 :: 48 :: 48 :: d :: e' :: (s.flatMap esc ++ 34 :: rest)) = _
        unfold textLoop
        rw [if_neg (by decide), if_pos rfl]
        have hes : escape (117 :: 48 :: 48 :: d :: e' :: (s.flatMap esc ++ 34 :: rest)) = .ok (c.toNat : Int) (s.flatMap esc ++ 34 :: rest) := by
          unfold escape
          have h1 : letter 117 = none := by decide
          have h2 : unit (48 :: 48 :: d :: e' :: (s.flatMap esc ++ 34 :: rest)) = .ok (c.toNat : Int) (s.flatMap esc ++ 34 :: rest) := units_append 4 0 [48, 48, d, e'] _ [] _ hl
          have h3 : ¬ (55296 ≤ (c.toNat : Int) ∧ (c.toNat : Int) < 56320) := by omega
          have h4 : isRune (c.toNat : Int) = true := by unfold isRune; simp only [decide_eq_true_eq]; omega
          simp only [h1, if_true, h2, if_neg h3, h4]
        rw [hes]
        simp only
        rw [hu, loop_quoted k s (by omega) hv' (acc ++ [c]) rest f (by omega)]
        simp
    · rw [g0] at hc
      rw [valid_step hne, if_neg (by omega)] at hv
      obtain ⟨d, hd⟩ : ∃ d, (decode (c :: s)).2 = d := ⟨_, rfl⟩
      rw [hd] at hv c3 c4 c5
      have hsplit : (c :: s).flatMap esc = (c :: s).take d ++ ((c :: s).drop d).flatMap esc := by
        conv => lhs; rw [← List.take_append_drop d (c :: s)]
        rw [List.flatMap_append, flat_high c5]
      have hlen : ((c :: s).take d).length = d := by rw [List.length_take]; omega
      obtain ⟨t, ht⟩ : ∃ t, (c :: s).take d = c :: t := by
        obtain ⟨d', rfl⟩ : ∃ d', d = d' + 1 := ⟨d - 1, by omega⟩
        exact ⟨s.take d', by simp⟩
      obtain ⟨m, hm⟩ : ∃ m, ((c :: s).drop d).flatMap esc ++ 34 :: rest = m := ⟨_, rfl⟩
      have hall : (c :: s).flatMap esc ++ 34 :: rest = c :: (t ++ m) := by rw [hsplit, List.append_assoc, hm, ht]; rfl
      have htl : t.length + 1 = d := by rw [← hlen, ht]; rfl
      have hdec : decode (c :: (t ++ m)) = decode (c :: s) := decode_take hne (by omega) (by
        rw [hd, ht, ← List.cons_append, List.take_append_of_le_length (by simp; omega)]
        rw [List.take_of_length_le (by simp; omega)])
      have hp : plain (c :: (t ++ m)) = true := by
        unfold plain
        rw [hdec]
        simp only [decide_eq_true_eq]
        omega
      have n34 : c ≠ 34 := by intro x; subst x; simp at hc
      have n92 : c ≠ 92 := by intro x; subst x; simp at hc
      rw [hall]
      unfold textLoop
      rw [if_neg n34, if_neg n92, hp, if_pos rfl, hdec, hd]
      have htk : (c :: (t ++ m)).take d = c :: t := by
        rw [← List.cons_append, List.take_append_of_le_length (by simp; omega), List.take_of_length_le (by simp; omega)]
      have hdr : (c :: (t ++ m)).drop d = m := by
        rw [← List.cons_append, List.drop_append_of_le_length (by simp; omega), List.drop_of_length_le (by simp; omega)]
        rfl
      rw [htk, hdr, ← hm, loop_quoted k ((c :: s).drop d) (by rw [List.length_drop]; simp; omega) hv _ rest f (by rw [List.length_drop]; simp; omega), ← ht, List.append_assoc, List.take_append_drop]
    · rw [valid_step hne, e] at hv
      simp at hv

theorem text_quoted (s rest : List UInt8) (hv : Lib.validD s = true) : text (quoted s ++ rest) = .ok s rest := by
  have hq : quoted s ++ rest = 34 :: (s.flatMap esc ++ 34 :: rest) := by simp [quoted]
  have hlen : s.length ≤ (s.flatMap esc).length := by
    clear hq hv
    induction s with
    | nil => simp
    | cons c s ih =>
      rw [List.flatMap_cons, List.length_append, List.length_cons]
      have : 1 ≤ (esc c).length := by
        unfold esc
        repeat' split
        all_goals simp
      omega
  rw [hq]
  unfold text
  simp only [if_true]
  rw [loop_quoted s.length s (Nat.le_refl _) hv [] rest _ (by simp only [List.length_append, List.length_cons]; omega)]
  rfl
end Go.Proofs.YtcmlppknfbndaaaDoor.Js
