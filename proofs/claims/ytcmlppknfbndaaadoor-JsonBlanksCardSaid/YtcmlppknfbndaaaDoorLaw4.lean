/-
  PLAIN LAWS OF VALUES: what is read may be, and is printed in no more bytes; the errors. Conditions: each lemma's own.
-/
import Derived.Test.YtcmlppknfbndaaaDoorLaw3
namespace Go.Proofs.YtcmlppknfbndaaaDoor.Js
open Go

/-- What a reading comes to. -/
def ValueIs (f : Nat) : Prop := ∀ (w : Int) (l : List UInt8) (v : V) (r : List UInt8), 0 ≤ w → w ≤ 8 → l.length < 4611686018427387904 → value f w l = .ok v r → may (8 - w) v = true ∧ Fits v ∧ (put v).length + r.length ≤ l.length ∧ r.length < l.length
def ListIs (f : Nat) : Prop := ∀ (w : Int) (l : List UInt8) (v : V) (r : List UInt8), 0 ≤ w → w ≤ 8 → l.length < 4611686018427387904 → list f w l = .ok v r →
  ∃ ks, v = .mk 4 0 [] ks [] ∧ mayAll (8 - w) ks = true ∧ FitsAll ks ∧ (putKids false true ks []).length + 1 + r.length ≤ l.length
def ElemsIs (f : Nat) : Prop := ∀ (w : Int) (acc : List V) (l : List UInt8) (v : V) (r : List UInt8), 0 ≤ w → w ≤ 8 → l.length < 4611686018427387904 → elems f w acc l = .ok v r →
  ∃ ks, ks ≠ [] ∧ v = .mk 4 0 [] (acc ++ ks) [] ∧ mayAll (8 - w) ks = true ∧ FitsAll ks ∧ (putKids false true ks []).length + 1 + r.length ≤ l.length
def ObjectIs (f : Nat) : Prop := ∀ (w : Int) (l : List UInt8) (v : V) (r : List UInt8), 0 ≤ w → w ≤ 8 → l.length < 4611686018427387904 → object f w l = .ok v r →
  ∃ ks ns, v = .mk 5 0 [] ks ns ∧ ns.length = ks.length ∧ namesOk [] ns = true ∧ (∀ s ∈ ns, s.length ≤ l.length) ∧ ns.length ≤ l.length ∧ mayAll (8 - w) ks = true ∧ FitsAll ks ∧ (putKids true true ks ns).length + 1 + r.length ≤ l.length
def FieldsIs (f : Nat) : Prop := ∀ (w : Int) (seen : List (List UInt8)) (acc : List V) (l : List UInt8) (v : V) (r : List UInt8), 0 ≤ w → w ≤ 8 → l.length < 4611686018427387904 → fields f w seen acc l = .ok v r →
  ∃ ks ns, ks ≠ [] ∧ v = .mk 5 0 [] (acc ++ ks) (seen ++ ns) ∧ ns.length = ks.length ∧ namesOk seen ns = true ∧ (∀ s ∈ ns, s.length ≤ l.length) ∧ ns.length ≤ l.length ∧ mayAll (8 - w) ks = true ∧ FitsAll ks ∧ (putKids true true ks ns).length + 1 + r.length ≤ l.length

theorem mayAll_nil (n : Int) : mayAll n [] = true := by unfold mayAll; rfl
theorem mayAll_cons (n : Int) (v : V) (r : List V) (h : may n v = true) (h2 : mayAll n r = true) : mayAll n (v :: r) = true := by unfold mayAll; rw [h, h2]; rfl
theorem namesOk_nil (seen : List (List UInt8)) : namesOk seen [] = true := by unfold namesOk; rfl
theorem namesOk_cons (seen : List (List UInt8)) (s : List UInt8) (r : List (List UInt8)) (h : Lib.validD s = true) (h1 : seen.contains s = false) (h2 : namesOk (seen ++ [s]) r = true) : namesOk seen (s :: r) = true := by
  unfold namesOk; rw [h, h1, h2]; rfl

theorem list_step {f : Nat} (h : ElemsIs f) : ListIs (f + 1) := by
  intro w l v r h0 h8 hl hx
  rw [list] at hx
  have hb := blanks_le l
  cases hc : blanks l with
  | nil => rw [hc] at hx; cases hx
  | cons c t =>
    rw [hc] at hx hb
    simp only at hx
    simp only [List.length_cons] at hb
    split at hx
    · injection hx with h1 h2
      subst h1 h2
      exact ⟨[], rfl, mayAll_nil _, trivial, by rw [putKids_nil]; simp; omega⟩
    · obtain ⟨ks, _, h2, h3, h4, h5⟩ := h w [] (c :: t) v r h0 h8 (by simp only [List.length_cons]; omega) hx
      exact ⟨ks, h2, h3, h4, by simp only [List.length_cons] at h5; omega⟩
theorem elems_step {f : Nat} (hv : ValueIs f) (h : ElemsIs f) : ElemsIs (f + 1) := by
  intro w acc l v r h0 h8 hl hx
  rw [elems] at hx
  cases hk : value f w l with
  | err e => rw [hk] at hx; cases hx
  | ok k l1 =>
    rw [hk] at hx
    simp only at hx
    obtain ⟨a1, a2, a3, a4⟩ := hv w l k l1 h0 h8 hl hk
    have hb := blanks_le l1
    cases hc : blanks l1 with
    | nil => rw [hc] at hx; cases hx
    | cons c t =>
      rw [hc] at hx hb
      simp only at hx
      simp only [List.length_cons] at hb
      split at hx
      · injection hx with h1 h2
        subst h1 h2
        refine ⟨[k], by simp, rfl, mayAll_cons _ _ _ a1 (mayAll_nil _), ⟨a2, trivial⟩, ?_⟩
        rw [putKids, putKids_nil]
        simp only [List.length_append, List.length_nil, if_true, if_false, Bool.false_eq_true]
        omega
      · split at hx
        · obtain ⟨ks, e1, e2, e3, e4, e5⟩ := h w (acc ++ [k]) t v r h0 h8 (by omega) hx
          refine ⟨k :: ks, by simp, by rw [e2]; simp, mayAll_cons _ _ _ a1 e3, ⟨a2, e4⟩, ?_⟩
          rw [putKids, putKids_rest _ _ _ e1]
          simp only [List.length_append, List.length_nil, List.length_cons, List.tail_nil, if_true, if_false, Bool.false_eq_true]
          omega
        · cases hx
theorem object_step {f : Nat} (h : FieldsIs f) : ObjectIs (f + 1) := by
  intro w l v r h0 h8 hl hx
  rw [object] at hx
  have hb := blanks_le l
  cases hc : blanks l with
  | nil => rw [hc] at hx; cases hx
  | cons c t =>
    rw [hc] at hx hb
    simp only at hx
    simp only [List.length_cons] at hb
    split at hx
    · injection hx with h1 h2
      subst h1 h2
      exact ⟨[], [], rfl, rfl, namesOk_nil _, by simp, by simp, mayAll_nil _, trivial, by rw [putKids_nil]; simp; omega⟩
    · obtain ⟨ks, ns, _, h2, h3, h4, h5, h6, h7, h8', h9⟩ := h w [] [] (c :: t) v r h0 h8 (by simp only [List.length_cons]; omega) hx
      simp only [List.length_cons] at h5 h6 h9
      exact ⟨ks, ns, h2, h3, h4, fun s hs => by have := h5 s hs; omega, by omega, h7, h8', by omega⟩
theorem fields_step {f : Nat} (hv : ValueIs f) (h : FieldsIs f) : FieldsIs (f + 1) := by
  intro w seen acc l v r h0 h8 hl hx
  rw [fields] at hx
  have hb0 := blanks_le l
  cases ht : text (blanks l) with
  | err e => rw [ht] at hx; cases hx
  | ok s l1 =>
    rw [ht] at hx
    simp only at hx
    obtain ⟨t1, t2, t3⟩ := text_ok ht
    have hq := quoted_len2 s
    split at hx
    · cases hx
    · rename_i hns
      have hns' : seen.contains s = false := by simpa using hns
      have hb := blanks_le l1
      cases hc : blanks l1 with
      | nil => rw [hc] at hx; cases hx
      | cons c t =>
        rw [hc] at hx hb
        simp only at hx
        simp only [List.length_cons] at hb
        split at hx
        · cases hk : value f w t with
          | err e => rw [hk] at hx; cases hx
          | ok k l2 =>
            rw [hk] at hx
            simp only at hx
            obtain ⟨a1, a2, a3, a4⟩ := hv w t k l2 h0 h8 (by omega) hk
            have hb2 := blanks_le l2
            cases hd : blanks l2 with
            | nil => rw [hd] at hx; cases hx
            | cons d t2 =>
              rw [hd] at hx hb2
              simp only at hx
              simp only [List.length_cons] at hb2
              split at hx
              · injection hx with h1 h2
                subst h1 h2
                refine ⟨[k], [s], by simp, rfl, rfl, namesOk_cons _ _ _ t1 hns' (namesOk_nil _), ?_, by simp; omega, mayAll_cons _ _ _ a1 (mayAll_nil _), ⟨a2, trivial⟩, ?_⟩
                · intro x hx
                  rw [List.mem_singleton] at hx
                  subst hx; omega
                · rw [putKids, putKids_nil]
                  simp only [List.length_append, List.length_nil, List.length_cons, if_true, List.headD_cons]
                  omega
              · split at hx
                · obtain ⟨ks, ns, e1, e2, e3, e4, e5, e6, e7, e8, e9⟩ := h w (seen ++ [s]) (acc ++ [k]) t2 v r h0 h8 (by omega) hx
                  refine ⟨k :: ks, s :: ns, by simp, by rw [e2]; simp, by simp [e3], namesOk_cons _ _ _ t1 hns' e4, ?_, by simp; omega, mayAll_cons _ _ _ a1 e7, ⟨a2, e8⟩, ?_⟩
                  · intro x hx
                    rcases List.mem_cons.1 hx with rfl | hx
                    · omega
                    · have := e5 x hx; omega
                  · rw [putKids, List.tail_cons, putKids_rest _ _ _ e1]
                    simp only [List.length_append, List.length_nil, List.length_cons, if_true, List.headD_cons]
                    omega
                · cases hx
        · cases hx
theorem value_step {f : Nat} (hl : ListIs f) (ho : ObjectIs f) : ValueIs (f + 1) := by
  intro w l v r h0 h8 hlen hx
  rw [value] at hx
  have hb := blanks_le l
  cases hc : blanks l with
  | nil => rw [hc] at hx; cases hx
  | cons c t =>
    rw [hc] at hx hb
    simp only at hx
    have hb' := hb
    simp only [List.length_cons] at hb
    split at hx
    · cases hw : word [110, 117, 108, 108] (c :: t) with
      | err e => rw [hw] at hx; cases hx
      | ok u l1 =>
        rw [hw] at hx
        injection hx with h1 h2
        subst h1 h2
        have e := congrArg List.length (word_ok hw)
        simp only [List.length_append, List.length_cons, List.length_nil] at e
        have hp : (put nul).length = 4 := rfl
        refine ⟨(may_iff _ _ _ _ _ _).2 (.inl ⟨rfl, rfl, rfl, rfl, rfl⟩), ⟨by decide, by simp, by simp, by simp, trivial⟩, by omega, by omega⟩
    split at hx
    · cases hw : word [116, 114, 117, 101] (c :: t) with
      | err e => rw [hw] at hx; cases hx
      | ok u l1 =>
        rw [hw] at hx
        injection hx with h1 h2
        subst h1 h2
        have e := congrArg List.length (word_ok hw)
        simp only [List.length_append, List.length_cons, List.length_nil] at e
        have hp : (put (.mk 1 1 [] [] [])).length = 4 := rfl
        refine ⟨(may_iff _ _ _ _ _ _).2 (.inr (.inl ⟨rfl, .inr rfl, rfl, rfl, rfl⟩)), ⟨by decide, by simp, by simp, by simp, trivial⟩, by omega, by omega⟩
    split at hx
    · cases hw : word [102, 97, 108, 115, 101] (c :: t) with
      | err e => rw [hw] at hx; cases hx
      | ok u l1 =>
        rw [hw] at hx
        injection hx with h1 h2
        subst h1 h2
        have e := congrArg List.length (word_ok hw)
        simp only [List.length_append, List.length_cons, List.length_nil] at e
        have hp : (put (.mk 1 0 [] [] [])).length = 5 := rfl
        refine ⟨(may_iff _ _ _ _ _ _).2 (.inr (.inl ⟨rfl, .inl rfl, rfl, rfl, rfl⟩)), ⟨by decide, by simp, by simp, by simp, trivial⟩, by omega, by omega⟩
    split at hx
    · cases ht : text (c :: t) with
      | err e => rw [ht] at hx; cases hx
      | ok s l1 =>
        rw [ht] at hx
        injection hx with h1 h2
        subst h1 h2
        obtain ⟨t1, t2, t3⟩ := text_ok ht
        have hq := quoted_len2 s
        have hp : put (.mk 3 0 s [] []) = quoted s := rfl
        rw [hp]
        refine ⟨(may_iff _ _ _ _ _ _).2 (.inr (.inr (.inr (.inl ⟨rfl, rfl, t1, rfl, rfl⟩)))), ⟨by decide, by omega, by simp, by simp, trivial⟩, by omega, by omega⟩
    split at hx
    · split at hx
      · cases hx
      · obtain ⟨ks, e1, e2, e3, e4⟩ := hl (w + 1) t v r (by omega) (by omega) (by omega) hx
        subst e1
        have hp : put (.mk 4 0 [] ks []) = [91] ++ putKids false true ks [] ++ [93] := by rw [put]; rfl
        rw [hp]
        simp only [List.length_append, List.length_cons, List.length_nil]
        refine ⟨(may_iff _ _ _ _ _ _).2 (.inr (.inr (.inr (.inr (.inl ⟨rfl, rfl, rfl, rfl, by omega, ?_⟩))))), ⟨by decide, by simp, by simp, by simp, e3⟩, by omega, by omega⟩
        rw [show 8 - w - 1 = 8 - (w + 1) by omega]; exact e2
    split at hx
    · split at hx
      · cases hx
      · obtain ⟨ks, ns, e1, e2, e3, e4, e5, e6, e7, e8⟩ := ho (w + 1) t v r (by omega) (by omega) (by omega) hx
        subst e1
        have hp : put (.mk 5 0 [] ks ns) = [123] ++ putKids true true ks ns ++ [125] := by rw [put]; rfl
        rw [hp]
        simp only [List.length_append, List.length_cons, List.length_nil]
        refine ⟨(may_iff _ _ _ _ _ _).2 (.inr (.inr (.inr (.inr (.inr ⟨rfl, rfl, rfl, e2, e3, by omega, ?_⟩))))), ⟨by decide, by simp, by omega, fun s hs => by have := e4 s hs; omega, e7⟩, by omega, by omega⟩
        rw [show 8 - w - 1 = 8 - (w + 1) by omega]; exact e6
    · cases hn : number (c :: t) with
      | err e => rw [hn] at hx; cases hx
      | ok n l1 =>
        rw [hn] at hx
        injection hx with h1 h2
        subst h1 h2
        obtain ⟨n1, n2, n3⟩ := number_ok hn
        have hp : put (.mk 2 n [] [] []) = Lib.itoa n := rfl
        rw [hp]
        refine ⟨(may_iff _ _ _ _ _ _).2 (.inr (.inr (.inl ⟨rfl, rfl, rfl, rfl⟩))), ⟨n1, by simp, by simp, by simp, trivial⟩, by omega, by omega⟩
theorem all_is : ∀ f, ValueIs f ∧ ListIs f ∧ ElemsIs f ∧ ObjectIs f ∧ FieldsIs f
  | 0 => by
    refine ⟨?_, ?_, ?_, ?_, ?_⟩
    · intro w l v r _ _ _ h; rw [value] at h; cases h
    · intro w l v r _ _ _ h; rw [list] at h; cases h
    · intro w acc l v r _ _ _ h; rw [elems] at h; cases h
    · intro w l v r _ _ _ h; rw [object] at h; cases h
    · intro w seen acc l v r _ _ _ h; rw [fields] at h; cases h
  | f + 1 => by
    obtain ⟨h1, h2, h3, h4, h5⟩ := all_is f
    exact ⟨value_step h2 h4, list_step h3, elems_step h1 h3, object_step h5, fields_step h1 h5⟩

/-- The errors: bytes that are none (5), or too many within one another (6). -/
theorem word_err {s l : List UInt8} {e : Int} (h : word s l = .err e) : e = 5 := by
  unfold word at h
  split at h
  · cases h
  · injection h with h; exact h.symm
theorem units_err : ∀ (k : Nat) (n : Int) (l : List UInt8) (e : Int), units k n l = .err e → e = 5
  | 0, n, l, e, h => by unfold units at h; cases h
  | k + 1, n, [], e, h => by unfold units at h; injection h with h; exact h.symm
  | k + 1, n, c :: l, e, h => by
    unfold units at h
    cases hc : hexVal c with
    | none => rw [hc] at h; injection h with h; exact h.symm
    | some d => rw [hc] at h; exact units_err k _ l e h
theorem escape_err {l : List UInt8} {e : Int} (h : escape l = .err e) : e = 5 := by
  unfold escape at h
  cases l with
  | nil => injection h with h; exact h.symm
  | cons c t =>
    simp only at h
    cases hl : letter c with
    | some m => rw [hl] at h; cases h
    | none =>
      rw [hl] at h
      simp only at h
      split at h
      · cases hu : unit t with
        | err e' => rw [hu] at h; injection h with h; rw [← h]; exact units_err _ _ _ _ hu
        | ok m r1 =>
          rw [hu] at h
          simp only at h
          split at h
          · unfold low at h
            cases hw : word [92, 117] r1 with
            | err e' => rw [hw] at h; injection h with h; rw [← h]; exact word_err hw
            | ok u l1 =>
              rw [hw] at h
              simp only at h
              cases hu2 : unit l1 with
              | err e' => rw [hu2] at h; injection h with h; rw [← h]; exact units_err _ _ _ _ hu2
              | ok m2 l2 =>
                rw [hu2] at h
                simp only at h
                split at h
                · cases h
                · injection h with h; exact h.symm
          · split at h
            · cases h
            · injection h with h; exact h.symm
      · injection h with h; exact h.symm
theorem loop_err : ∀ (f : Nat) (acc l : List UInt8) (e : Int), textLoop f acc l = .err e → e = 5
  | 0, acc, l, e, h => by unfold textLoop at h; injection h with h; exact h.symm
  | f + 1, acc, [], e, h => by unfold textLoop at h; injection h with h; exact h.symm
  | f + 1, acc, c :: t, e, h => by
    unfold textLoop at h
    split at h
    · cases h
    · split at h
      · cases he : escape t with
        | err e' => rw [he] at h; injection h with h; rw [← h]; exact escape_err he
        | ok n rest => rw [he] at h; exact loop_err f _ rest e h
      · split at h
        · exact loop_err f _ _ e h
        · injection h with h; exact h.symm
theorem text_err {l : List UInt8} {e : Int} (h : text l = .err e) : e = 5 := by
  unfold text at h
  cases l with
  | nil => injection h with h; exact h.symm
  | cons c t =>
    simp only at h
    split at h
    · exact loop_err _ _ _ _ h
    · injection h with h; exact h.symm
theorem number_err {l : List UInt8} {e : Int} (h : number l = .err e) : e = 5 := by
  unfold number at h
  split at h
  · injection h with h; exact h.symm
  · split at h
    · cases h
    · injection h with h; exact h.symm
def Err56 (e : Int) : Prop := e = 5 ∨ e = 6
theorem all_err : ∀ f, (∀ w l e, value f w l = .err e → Err56 e) ∧ (∀ w l e, list f w l = .err e → Err56 e) ∧ (∀ w acc l e, elems f w acc l = .err e → Err56 e) ∧ (∀ w l e, object f w l = .err e → Err56 e) ∧ (∀ w seen acc l e, fields f w seen acc l = .err e → Err56 e)
  | 0 => by
    refine ⟨?_, ?_, ?_, ?_, ?_⟩
    · intro w l e h; rw [value] at h; injection h with h; exact .inl h.symm
    · intro w l e h; rw [list] at h; injection h with h; exact .inl h.symm
    · intro w acc l e h; rw [elems] at h; injection h with h; exact .inl h.symm
    · intro w l e h; rw [object] at h; injection h with h; exact .inl h.symm
    · intro w seen acc l e h; rw [fields] at h; injection h with h; exact .inl h.symm
  | f + 1 => by
    obtain ⟨i1, i2, i3, i4, i5⟩ := all_err f
    refine ⟨?_, ?_, ?_, ?_, ?_⟩
    · intro w l e h
      rw [value] at h
      cases hc : blanks l with
      | nil => rw [hc] at h; injection h with h; exact .inl h.symm
      | cons c t =>
        rw [hc] at h
        simp only at h
        split at h
        · cases hw : word [110, 117, 108, 108] (c :: t) with
          | err e' => rw [hw] at h; injection h with h; rw [← h]; exact .inl (word_err hw)
          | ok u l1 => rw [hw] at h; cases h
        split at h
        · cases hw : word [116, 114, 117, 101] (c :: t) with
          | err e' => rw [hw] at h; injection h with h; rw [← h]; exact .inl (word_err hw)
          | ok u l1 => rw [hw] at h; cases h
        split at h
        · cases hw : word [102, 97, 108, 115, 101] (c :: t) with
          | err e' => rw [hw] at h; injection h with h; rw [← h]; exact .inl (word_err hw)
          | ok u l1 => rw [hw] at h; cases h
        split at h
        · cases hw : text (c :: t) with
          | err e' => rw [hw] at h; injection h with h; rw [← h]; exact .inl (text_err hw)
          | ok u l1 => rw [hw] at h; cases h
        split at h
        · split at h
          · injection h with h; exact .inr h.symm
          · exact i2 _ _ _ h
        split at h
        · split at h
          · injection h with h; exact .inr h.symm
          · exact i4 _ _ _ h
        · cases hw : number (c :: t) with
          | err e' => rw [hw] at h; injection h with h; rw [← h]; exact .inl (number_err hw)
          | ok u l1 => rw [hw] at h; cases h
    · intro w l e h
      rw [list] at h
      cases hc : blanks l with
      | nil => rw [hc] at h; injection h with h; exact .inl h.symm
      | cons c t =>
        rw [hc] at h
        simp only at h
        split at h
        · cases h
        · exact i3 _ _ _ _ h
    · intro w acc l e h
      rw [elems] at h
      cases hk : value f w l with
      | err e' => rw [hk] at h; injection h with h; rw [← h]; exact i1 _ _ _ hk
      | ok k l1 =>
        rw [hk] at h
        simp only at h
        cases hc : blanks l1 with
        | nil => rw [hc] at h; injection h with h; exact .inl h.symm
        | cons c t =>
          rw [hc] at h
          simp only at h
          split at h
          · cases h
          · split at h
            · exact i3 _ _ _ _ h
            · injection h with h; exact .inl h.symm
    · intro w l e h
      rw [object] at h
      cases hc : blanks l with
      | nil => rw [hc] at h; injection h with h; exact .inl h.symm
      | cons c t =>
        rw [hc] at h
        simp only at h
        split at h
        · cases h
        · exact i5 _ _ _ _ _ h
    · intro w seen acc l e h
      rw [fields] at h
      cases ht : text (blanks l) with
      | err e' => rw [ht] at h; injection h with h; rw [← h]; exact .inl (text_err ht)
      | ok s l1 =>
        rw [ht] at h
        simp only at h
        split at h
        · injection h with h; exact .inl h.symm
        · cases hc : blanks l1 with
          | nil => rw [hc] at h; injection h with h; exact .inl h.symm
          | cons c t =>
            rw [hc] at h
            simp only at h
            split at h
            · cases hk : value f w t with
              | err e' => rw [hk] at h; injection h with h; rw [← h]; exact i1 _ _ _ hk
              | ok k l2 =>
                rw [hk] at h
                simp only at h
                cases hd : blanks l2 with
                | nil => rw [hd] at h; injection h with h; exact .inl h.symm
                | cons d t2 =>
                  rw [hd] at h
                  simp only at h
                  split at h
                  · cases h
                  · split at h
                    · exact i5 _ _ _ _ _ h
                    · injection h with h; exact .inl h.symm
            · injection h with h; exact .inl h.symm

mutual
theorem same_refl : ∀ v : V, same v v = true
  | .mk k n t ks ns => by
    rw [same, sameAll_refl ks]
    simp
theorem sameAll_refl : ∀ ks : List V, sameAll ks ks = true
  | [] => by rw [sameAll]
  | v :: r => by rw [sameAll, same_refl v, sameAll_refl r]; rfl
end
mutual
theorem same_eq : ∀ (v u : V), same v u = true → v = u
  | .mk k n t ks ns, .mk k' n' t' ks' ns', h => by
    rw [same] at h
    simp only [Bool.and_eq_true, decide_eq_true_eq] at h
    obtain ⟨⟨⟨⟨rfl, rfl⟩, rfl⟩, rfl⟩, h5⟩ := h
    rw [sameAll_eq ks ks' h5]
theorem sameAll_eq : ∀ (ks us : List V), sameAll ks us = true → ks = us
  | [], [], _ => rfl
  | [], _ :: _, h => by rw [sameAll] at h; cases h; all_goals simp
  | _ :: _, [], h => by rw [sameAll] at h; cases h; all_goals simp
  | v :: r, u :: q, h => by
    rw [sameAll, Bool.and_eq_true] at h
    rw [same_eq v u h.1, sameAll_eq r q h.2]
end

/-- What is printed of a value is read as it, whatever blanks stand around it. -/
theorem parse_put (v : V) (b d : List UInt8) (hm : may 8 v = true) (hf : Fits v) (hb : ∀ c ∈ b, ([32, 9, 10, 13] : List UInt8).contains c = true) (hs : v.kind = 2 → stops d) (hl : (b ++ (put v ++ d)).length ≤ 65536) :
    parse (b ++ (put v ++ d)) = if (blanks d).length = 0 then (v, 0) else (nul, 5) := by
  unfold parse
  rw [if_neg (by omega)]
  obtain ⟨m, hme⟩ : ∃ m, 3 * (b ++ (put v ++ d)).length = m := ⟨_, rfl⟩
  rw [hme]
  have hval : value (m + 1) 0 (b ++ (put v ++ d)) = .ok v d := by
    have h1 := value_put v 8 0 (m + 1) d hm hf (by decide) hs (by rw [← hme]; simp only [List.length_append]; omega)
    rw [value] at h1 ⊢
    rw [blanks_app hb]
    exact h1
  rw [hval]
theorem short_ok (l : List UInt8) (h : l.length ≤ 8192) (h0 : (parse l).2 = 0) : may 8 (parse l).1 = true ∧ Fits (parse l).1 ∧ (put (parse l).1).length ≤ l.length ∧ parse (put (parse l).1) = ((parse l).1, 0) := by
  unfold parse at h0
  rw [if_neg (by omega)] at h0
  cases hx : value (3 * l.length + 1) 0 l with
  | err e =>
    rw [hx] at h0
    have := (all_err _).1 _ _ _ hx
    unfold Err56 at this
    simp only at h0
    omega
  | ok v r =>
    rw [hx] at h0
    simp only at h0
    obtain ⟨h1, h2, h3, h4⟩ := (all_is (3 * l.length + 1)).1 0 l v r (by decide) (by decide) (by omega) hx
    have hp : parse l = (v, 0) := by
      unfold parse
      rw [if_neg (by omega), hx]
      simp only
      split at h0
      · rename_i hz; rw [if_pos hz]
      · simp at h0
    rw [hp]
    refine ⟨h1, h2, by simp only; omega, ?_⟩
    have := parse_put v [] [] h1 h2 (by simp) (fun _ => fun c r e => by cases e) (by simp; omega)
    simpa [blanks, Lib.trimLeftS] using this
theorem parse_err (l : List UInt8) (h0 : (parse l).2 ≠ 0) : Err56 (parse l).2 ∧ (parse l).1 = nul := by
  unfold parse at h0 ⊢
  split
  · exact ⟨.inr rfl, rfl⟩
  · rename_i hl
    rw [if_neg hl] at h0
    cases hx : value (3 * l.length + 1) 0 l with
    | err e => exact ⟨(all_err _).1 _ _ _ hx, rfl⟩
    | ok v r =>
      rw [hx] at h0
      simp only at h0 ⊢
      split at h0
      · exact absurd rfl h0
      · rename_i hz
        rw [if_neg hz]
        exact ⟨.inl rfl, rfl⟩
end Go.Proofs.YtcmlppknfbndaaaDoor.Js
