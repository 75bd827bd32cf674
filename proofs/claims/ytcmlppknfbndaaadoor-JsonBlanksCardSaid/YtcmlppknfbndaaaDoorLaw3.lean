/-
  PLAIN LAWS OF VALUES: what is printed is read again; what is read may be, and is printed in no more bytes. Conditions: each lemma's own.
-/
import Derived.Test.YtcmlppknfbndaaaDoorLaw2
namespace Go.Proofs.YtcmlppknfbndaaaDoor.Js
open Go

mutual
/-- Numbers and lengths as Go has them. -/
def Fits : V → Prop
  | .mk _ n t ks ns => (-9223372036854775808 ≤ n ∧ n ≤ 9223372036854775807) ∧ t.length ≤ 9223372036854775807 ∧ ns.length < 4611686018427387904 ∧ (∀ s ∈ ns, s.length ≤ 9223372036854775807) ∧ FitsAll ks
def FitsAll : List V → Prop
  | [] => True
  | v :: r => Fits v ∧ FitsAll r
end

/-- Which value may be, kind by kind. -/
def MayIs (nest k n : Int) (t : List UInt8) (ks : List V) (ns : List (List UInt8)) : Prop :=
  (k = 0 ∧ n = 0 ∧ t = [] ∧ ks = [] ∧ ns = []) ∨ (k = 1 ∧ (n = 0 ∨ n = 1) ∧ t = [] ∧ ks = [] ∧ ns = []) ∨ (k = 2 ∧ t = [] ∧ ks = [] ∧ ns = []) ∨ (k = 3 ∧ n = 0 ∧ Lib.validD t = true ∧ ks = [] ∧ ns = []) ∨
  (k = 4 ∧ n = 0 ∧ t = [] ∧ ns = [] ∧ 0 < nest ∧ mayAll (nest - 1) ks = true) ∨ (k = 5 ∧ n = 0 ∧ t = [] ∧ ns.length = ks.length ∧ namesOk [] ns = true ∧ 0 < nest ∧ mayAll (nest - 1) ks = true)
theorem may_iff (nest k n : Int) (t : List UInt8) (ks : List V) (ns : List (List UInt8)) : may nest (.mk k n t ks ns) = true ↔ MayIs nest k n t ks ns := by
  unfold may bare MayIs
  by_cases h0 : k = 0
  · subst h0; simp
  by_cases h1 : k = 1
  · subst h1
    simp
    constructor
    · rintro ⟨⟨a, b, c⟩, d⟩; exact ⟨d, a, b, c⟩
    · rintro ⟨d, a, b, c⟩; exact ⟨⟨a, b, c⟩, d⟩
  by_cases h2 : k = 2
  · subst h2; simp
  by_cases h3 : k = 3
  · subst h3
    simp
    constructor
    · rintro ⟨⟨a, b, c⟩, d⟩; exact ⟨a, d, b, c⟩
    · rintro ⟨a, d, b, c⟩; exact ⟨⟨a, b, c⟩, d⟩
  by_cases h4 : k = 4
  · subst h4
    simp
    constructor
    · rintro ⟨⟨a, b, c⟩, ⟨d, e⟩, f⟩; exact ⟨a, b, c, e, f⟩
    · rintro ⟨a, b, c, e, f⟩; exact ⟨⟨a, b, c⟩, ⟨by subst c; rfl, e⟩, f⟩
  by_cases h5 : k = 5
  · subst h5
    simp
    constructor
    · rintro ⟨⟨a, b, c⟩, ⟨d, e⟩, f⟩; exact ⟨a, b, c, d, e, f⟩
    · rintro ⟨a, b, c, d, e, f⟩; exact ⟨⟨a, b, c⟩, ⟨d, e⟩, f⟩
  simp [h0, h1, h2, h3, h4, h5]

theorem blanks_of {c : UInt8} {r : List UInt8} (h : ([32, 9, 10, 13] : List UInt8).contains c = false) : blanks (c :: r) = c :: r := by
  unfold blanks Lib.trimLeftS
  rw [List.dropWhile_cons, h]
  rfl
theorem blanks_le (l : List UInt8) : (blanks l).length ≤ l.length := by
  unfold blanks Lib.trimLeftS
  exact (List.dropWhile_sublist _).length_le
theorem blanks_app : ∀ {b : List UInt8} {l : List UInt8}, (∀ c ∈ b, ([32, 9, 10, 13] : List UInt8).contains c = true) → blanks (b ++ l) = blanks l
  | [], l, _ => rfl
  | c :: b, l, h => by
    unfold blanks Lib.trimLeftS
    rw [List.cons_append, List.dropWhile_cons, h c (by simp), if_pos rfl]
    exact blanks_app (fun d hd => h d (by simp [hd]))
theorem blanks_all {b : List UInt8} (h : ∀ c ∈ b, ([32, 9, 10, 13] : List UInt8).contains c = true) : blanks b = [] := by
  have := blanks_app (l := []) h
  rw [List.append_nil] at this
  rw [this]; rfl
theorem blanks_twice : ∀ l : List UInt8, blanks (blanks l) = blanks l
  | [] => rfl
  | c :: l => by
    cases h : ([32, 9, 10, 13] : List UInt8).contains c with
    | false => rw [blanks_of h, blanks_of h]
    | true =>
      have : blanks (c :: l) = blanks l := blanks_app (b := [c]) (fun d hd => by rw [List.mem_singleton] at hd; rw [hd]; exact h)
      rw [this]
      exact blanks_twice l

theorem putKids_rest (obj : Bool) (ks : List V) (ns : List (List UInt8)) : ks ≠ [] → putKids obj false ks ns = 44 :: putKids obj true ks ns := by
  cases ks with
  | nil => intro h; exact absurd rfl h
  | cons v r => intro _; rw [putKids, putKids]; rfl
theorem putKids_nil (obj f : Bool) (ns : List (List UInt8)) : putKids obj f [] ns = [] := by rw [putKids]

theorem value_letters {f : Nat} {w : Int} {c : UInt8} {r : List UInt8} (h : ([32, 9, 10, 13] : List UInt8).contains c = false) (h1 : c ≠ 110) (h2 : c ≠ 116) (h3 : c ≠ 102) (h4 : c ≠ 34) (h5 : c ≠ 91) (h6 : c ≠ 123) :
    value (f + 1) w (c :: r) = (match number (c :: r) with | .err e => .err e | .ok n l => .ok (.mk 2 n [] [] []) l) := by
  rw [value, blanks_of h]
  simp only [h1, h2, h3, h4, h5, h6, if_false]
  rfl
theorem itoa_head (n : Int) : ∃ c r, Lib.itoa n = c :: r ∧ (c = 45 ∨ (48 ≤ c.toNat ∧ c.toNat ≤ 57)) := by
  unfold Lib.itoa
  split
  · exact ⟨45, _, rfl, .inl rfl⟩
  · have hpos : 0 < (Lib.decDigits n.toNat).length := by rw [Lib.decDigits_length]; exact Lib.nDigits_pos _
    cases hx : Lib.decDigits n.toNat with
    | nil => rw [hx] at hpos; simp at hpos
    | cons c r => exact ⟨c, r, rfl, .inr (decDigits_all _ _ (Nat.le_refl _) c (by rw [hx]; simp))⟩
theorem num_head {c : UInt8} (h : c = 45 ∨ (48 ≤ c.toNat ∧ c.toNat ≤ 57)) : ([32, 9, 10, 13] : List UInt8).contains c = false ∧ c ≠ 110 ∧ c ≠ 116 ∧ c ≠ 102 ∧ c ≠ 34 ∧ c ≠ 91 ∧ c ≠ 123 := by
  have key : ∀ k < 256, (UInt8.ofNat k = 45 ∨ (48 ≤ k ∧ k ≤ 57)) → ([32, 9, 10, 13] : List UInt8).contains (UInt8.ofNat k) = false ∧ UInt8.ofNat k ≠ 110 ∧ UInt8.ofNat k ≠ 116 ∧ UInt8.ofNat k ≠ 102 ∧ UInt8.ofNat k ≠ 34 ∧ UInt8.ofNat k ≠ 91 ∧ UInt8.ofNat k ≠ 123 := by decide +kernel
  have := key c.toNat c.toNat_lt
  rw [UInt8.ofNat_toNat] at this
  exact this h
theorem quoted_cons (s rest : List UInt8) : ∃ r, quoted s ++ rest = 34 :: r := ⟨s.flatMap esc ++ [34] ++ rest, by simp [quoted]⟩
theorem stops_of {c : UInt8} (r : List UInt8) (h : isDigit c = false) : stops (c :: r) := fun d q e => by injection e with e1 e2; rw [← e1]; exact h

mutual
/-- What is printed is read as it was. -/
theorem value_put : ∀ (v : V) (nest w : Int) (f : Nat) (rest : List UInt8), may nest v = true → Fits v → nest + w ≤ 8 → (v.kind = 2 → stops rest) → 3 * (put v).length + 1 ≤ f → value f w (put v ++ rest) = .ok v rest
  | .mk k n t ks ns, nest, w, f, rest, hm, hf, hw, hs, hfu => by
    obtain ⟨f, rfl⟩ : ∃ g, f = g + 1 := ⟨f - 1, by omega⟩
    rw [may_iff] at hm
    rcases hm with ⟨rfl, rfl, rfl, rfl, rfl⟩ | ⟨rfl, hn, rfl, rfl, rfl⟩ | ⟨rfl, rfl, rfl, rfl⟩ | ⟨rfl, rfl, hv, rfl, rfl⟩ | ⟨rfl, rfl, rfl, rfl, hpos, hk⟩ | ⟨rfl, rfl, rfl, hl, hno, hpos, hk⟩
    · rw [put]; rfl
    · rw [put]
      rcases hn with rfl | rfl <;> rfl
    · rw [put]
      have hnum := number_itoa n hf.1.1 hf.1.2 rest (hs rfl)
      obtain ⟨c, r, e, hc⟩ := itoa_head n
      obtain ⟨h1, h2, h3, h4, h5, h6, h7⟩ := num_head hc
      show value (f + 1) w (Lib.itoa n ++ rest) = _
      rw [e] at hnum ⊢
      rw [List.cons_append] at hnum ⊢
      rw [value_letters h1 h2 h3 h4 h5 h6 h7, hnum]
    · rw [put]
      have ht := text_quoted t rest hv
      obtain ⟨r, e⟩ := quoted_cons t rest
      show value (f + 1) w (quoted t ++ rest) = _
      rw [e] at ht ⊢
      rw [value, blanks_of (by decide)]
      show (match text (34 :: r) with | Res.err e => (Res.err e : Res V) | Res.ok s l => Res.ok (.mk 3 0 s [] []) l) = _
      rw [ht]
    · rw [put] at hfu ⊢
      show value (f + 1) w (([91] ++ putKids false true ks [] ++ [93]) ++ rest) = _
      have e : ([91] ++ putKids false true ks [] ++ [93]) ++ rest = 91 :: (putKids false true ks [] ++ 93 :: rest) := by simp
      rw [e, value, blanks_of (by decide)]
      show (if w = 8 then Res.err 6 else list f (w + 1) (putKids false true ks [] ++ 93 :: rest)) = _
      rw [if_neg (by omega)]
      have hlen : 3 * ((putKids false true ks []).length + 2) + 1 ≤ f + 1 := by
        have : ([91] ++ putKids false true ks [] ++ [93]).length = (putKids false true ks []).length + 2 := by simp
        have h2 : 3 * ([91] ++ putKids false true ks [] ++ [93]).length + 1 ≤ f + 1 := hfu
        omega
      obtain ⟨f, rfl⟩ : ∃ g, f = g + 1 := ⟨f - 1, by omega⟩
      cases ks with
      | nil =>
        rw [putKids_nil, list]
        rfl
      | cons v r =>
        obtain ⟨c, q, hcq, hc1, hc2⟩ := put_head v (nest - 1) (by unfold mayAll at hk; rw [Bool.and_eq_true] at hk; exact hk.1)
        have hpk : putKids false true (v :: r) [] = c :: (q ++ putKids false false r []) := by
          rw [putKids, hcq]; rfl
        rw [list, hpk, List.cons_append, blanks_of hc1]
        show (if c = 93 then _ else elems f (w + 1) [] (c :: (q ++ putKids false false r [] ++ 93 :: rest))) = _
        rw [if_neg hc2, ← List.cons_append, ← hpk, elems_put (v :: r) (nest - 1) (w + 1) f [] rest (by simp) hk hf.2.2.2.2 (by omega) (by omega)]
        rfl
    · rw [put] at hfu ⊢
      show value (f + 1) w (([123] ++ putKids true true ks ns ++ [125]) ++ rest) = _
      have e : ([123] ++ putKids true true ks ns ++ [125]) ++ rest = 123 :: (putKids true true ks ns ++ 125 :: rest) := by simp
      rw [e, value, blanks_of (by decide)]
      show (if w = 8 then Res.err 6 else object f (w + 1) (putKids true true ks ns ++ 125 :: rest)) = _
      rw [if_neg (by omega)]
      have hlen : 3 * ((putKids true true ks ns).length + 2) + 1 ≤ f + 1 := by
        have : ([123] ++ putKids true true ks ns ++ [125]).length = (putKids true true ks ns).length + 2 := by simp
        have h2 : 3 * ([123] ++ putKids true true ks ns ++ [125]).length + 1 ≤ f + 1 := hfu
        omega
      obtain ⟨f, rfl⟩ : ∃ g, f = g + 1 := ⟨f - 1, by omega⟩
      cases ks with
      | nil =>
        obtain rfl : ns = [] := List.eq_nil_of_length_eq_zero hl
        rw [putKids_nil, object]
        rfl
      | cons v r =>
        have hpk : ∃ q, putKids true true (v :: r) ns = 34 :: q := by
          rw [putKids]
          obtain ⟨q, hq⟩ := quoted_cons (ns.headD []) ([58] ++ put v ++ putKids true false r ns.tail)
          refine ⟨q, ?_⟩
          rw [← hq]; simp
        obtain ⟨q, hpk⟩ := hpk
        rw [object, hpk, List.cons_append, blanks_of (by decide)]
        show fields f (w + 1) [] [] (34 :: (q ++ 125 :: rest)) = _
        rw [← List.cons_append, ← hpk, fields_put (v :: r) ns (nest - 1) (w + 1) f [] [] rest (by simp) hl hno hk hf.2.2.2.2 (by omega) (by omega)]
        rfl
theorem put_head : ∀ (v : V) (nest : Int), may nest v = true → ∃ c r, put v = c :: r ∧ ([32, 9, 10, 13] : List UInt8).contains c = false ∧ c ≠ 93
  | .mk k n t ks ns, nest, hm => by
    rw [may_iff] at hm
    rcases hm with ⟨rfl, rfl, rfl, rfl, rfl⟩ | ⟨rfl, hn, rfl, rfl, rfl⟩ | ⟨rfl, rfl, rfl, rfl⟩ | ⟨rfl, rfl, hv, rfl, rfl⟩ | ⟨rfl, rfl, rfl, rfl, hpos, hk⟩ | ⟨rfl, rfl, rfl, hl, hno, hpos, hk⟩
    · rw [put]; exact ⟨110, _, rfl, by decide, by decide⟩
    · rw [put]
      rcases hn with rfl | rfl
      · exact ⟨102, _, rfl, by decide, by decide⟩
      · exact ⟨116, _, rfl, by decide, by decide⟩
    · rw [put]
      obtain ⟨c, r, e, hc⟩ := itoa_head n
      refine ⟨c, r, e, (num_head hc).1, ?_⟩
      rintro rfl
      rcases hc with hc | hc
      · cases hc
      · simp at hc
    · rw [put]
      exact ⟨34, t.flatMap esc ++ [34], by simp [quoted], by decide, by decide⟩
    · rw [put]; exact ⟨91, _, rfl, by decide, by decide⟩
    · rw [put]; exact ⟨123, _, rfl, by decide, by decide⟩
theorem elems_put : ∀ (ks : List V) (nest w : Int) (f : Nat) (acc : List V) (rest : List UInt8), ks ≠ [] → mayAll nest ks = true → FitsAll ks → nest + w ≤ 8 → 3 * ((putKids false true ks []).length + 1) + 2 ≤ f →
    elems f w acc (putKids false true ks [] ++ 93 :: rest) = .ok (.mk 4 0 [] (acc ++ ks) []) rest
  | [], _, _, _, _, _, h, _, _, _, _ => absurd rfl h
  | v :: r, nest, w, f, acc, rest, _, hm, hf, hw, hfu => by
    obtain ⟨f, rfl⟩ : ∃ g, f = g + 1 := ⟨f - 1, by omega⟩
    unfold mayAll at hm
    rw [Bool.and_eq_true] at hm
    have hp : putKids false true (v :: r) [] = put v ++ putKids false false r [] := by rw [putKids]; rfl
    rw [hp] at hfu ⊢
    rw [List.length_append] at hfu
    rw [elems, List.append_assoc]
    have hst : v.kind = 2 → stops (putKids false false r [] ++ 93 :: rest) := fun _ => by
      cases r with
      | nil => rw [putKids_nil]; exact stops_of _ (by decide)
      | cons u q => rw [putKids_rest _ _ _ (by simp)]; exact stops_of _ (by decide)
    rw [value_put v nest w f _ hm.1 hf.1 hw hst (by omega)]
    cases r with
    | nil =>
      simp only [putKids_nil, List.nil_append]
      rw [blanks_of (by decide)]
      rfl
    | cons u q =>
      rw [putKids_rest _ _ _ (by simp)] at hfu ⊢
      rw [List.length_cons] at hfu
      simp only [List.cons_append]
      rw [blanks_of (by decide)]
      show elems f w (acc ++ [v]) (putKids false true (u :: q) [] ++ 93 :: rest) = _
      rw [elems_put (u :: q) nest w f (acc ++ [v]) rest (by simp) hm.2 hf.2 hw (by omega)]
      simp
theorem fields_put : ∀ (ks : List V) (ns : List (List UInt8)) (nest w : Int) (f : Nat) (seen : List (List UInt8)) (acc : List V) (rest : List UInt8), ks ≠ [] → ns.length = ks.length → namesOk seen ns = true → mayAll nest ks = true → FitsAll ks → nest + w ≤ 8 → 3 * ((putKids true true ks ns).length + 1) + 2 ≤ f →
    fields f w seen acc (putKids true true ks ns ++ 125 :: rest) = .ok (.mk 5 0 [] (acc ++ ks) (seen ++ ns)) rest
  | [], _, _, _, _, _, _, _, h, _, _, _, _, _, _ => absurd rfl h
  | v :: r, [], _, _, _, _, _, _, _, hl, _, _, _, _, _ => by simp at hl
  | v :: r, s :: ns, nest, w, f, seen, acc, rest, _, hl, hno, hm, hf, hw, hfu => by
    obtain ⟨f, rfl⟩ : ∃ g, f = g + 1 := ⟨f - 1, by omega⟩
    unfold mayAll at hm
    rw [Bool.and_eq_true] at hm
    unfold namesOk at hno
    simp only [Bool.and_eq_true, Bool.not_eq_true'] at hno
    have hp : putKids true true (v :: r) (s :: ns) = quoted s ++ (58 :: (put v ++ putKids true false r ns)) := by rw [putKids]; simp
    rw [hp] at hfu ⊢
    simp only [List.length_append, List.length_cons] at hfu hl
    have hq2 := quoted_len2 s
    rw [fields, List.append_assoc]
    obtain ⟨q, hq⟩ := quoted_cons s ((58 :: (put v ++ putKids true false r ns)) ++ 125 :: rest)
    have hb : blanks (quoted s ++ ((58 :: (put v ++ putKids true false r ns)) ++ 125 :: rest)) = quoted s ++ ((58 :: (put v ++ putKids true false r ns)) ++ 125 :: rest) := by
      rw [hq]; exact blanks_of (by decide)
    rw [hb, text_quoted s _ hno.1.1]
    simp only [hno.1.2]
    rw [List.cons_append, blanks_of (by decide)]
    simp only [if_true, List.append_assoc]
    have hst : v.kind = 2 → stops (putKids true false r ns ++ 125 :: rest) := fun _ => by
      cases r with
      | nil => rw [putKids_nil]; exact stops_of _ (by decide)
      | cons u q => rw [putKids_rest _ _ _ (by simp)]; exact stops_of _ (by decide)
    rw [value_put v nest w f _ hm.1 hf.1 hw hst (by omega)]
    cases r with
    | nil =>
      obtain rfl : ns = [] := List.eq_nil_of_length_eq_zero (by simpa using hl)
      simp only [putKids_nil, List.nil_append]
      rw [blanks_of (by decide)]
      rfl
    | cons u q =>
      rw [putKids_rest _ _ _ (by simp)] at hfu ⊢
      rw [List.length_cons] at hfu
      simp only [List.cons_append]
      rw [blanks_of (by decide)]
      show fields f w (seen ++ [s]) (acc ++ [v]) (putKids true true (u :: q) ns ++ 125 :: rest) = _
      rw [fields_put (u :: q) ns nest w f (seen ++ [s]) (acc ++ [v]) rest (by simp) (by simpa using hl) hno.2 hm.2 hf.2 hw (by omega)]
      simp
end
end Go.Proofs.YtcmlppknfbndaaaDoor.Js
