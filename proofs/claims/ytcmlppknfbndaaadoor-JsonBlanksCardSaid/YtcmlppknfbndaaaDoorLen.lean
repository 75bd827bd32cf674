/-
  WHAT A STEP OF THE READER LEAVES IS SHORTER. Plain lemmas. Conditions: none.
-/
import Derived.Test.YtcmlppknfbndaaaDoorVal
namespace Go.Proofs.YtcmlppknfbndaaaDoor
open Js

theorem word_len {s l : List UInt8} {x : Unit} {rest : List UInt8} (h : word s l = .ok x rest) : rest.length + s.length = l.length := by
  unfold word at h
  split at h
  · rename_i hp
    have := List.IsPrefix.length_le (List.isPrefixOf_iff_prefix.1 hp)
    simp only [Res.ok.injEq] at h
    rw [← h.2]; simp; omega
  · cases h
theorem textLoop_len : ∀ (f : Nat) (acc l s rest : List UInt8), textLoop f acc l = .ok s rest → rest.length < l.length
  | 0, _, _, _, _, h => by simp [textLoop] at h
  | f + 1, acc, [], s, rest, h => by simp [textLoop] at h
  | f + 1, acc, c :: r, s, rest, h => by
    unfold textLoop at h
    split at h
    · simp only [Res.ok.injEq] at h
      rw [← h.2]; simp
    · split at h
      · split at h
        · cases h
        · rename_i n r1 hx
          have h1 := escape_bound hx
          have h2 := textLoop_len f _ _ _ _ h
          simp; omega
      · split at h
        · have h2 := textLoop_len f _ _ _ _ h
          have := (decode_bound (c :: r) (by simp)).1
          simp at h2 ⊢
          omega
        · cases h
theorem text_len {l s rest : List UInt8} (h : text l = .ok s rest) : rest.length < l.length := by
  unfold text at h
  cases l with
  | nil => simp at h
  | cons c r =>
    simp only at h
    split at h
    · have := textLoop_len _ _ _ _ _ h
      simp; omega
    · cases h
theorem number_len {l rest : List UInt8} {n : Int} (h : number l = .ok n rest) : rest.length < l.length := by
  unfold number at h
  split at h
  · cases h
  · rename_i hne
    split at h
    · simp only [Res.ok.injEq] at h
      have h1 : 0 < numLen l := by
        unfold numLen at hne ⊢
        omega
      have h2 : l ≠ [] := by
        intro e; subst e
        simp [numLen, sign, digits] at h1
      have h3 : 0 < l.length := by cases l with
        | nil => exact absurd rfl h2
        | cons _ _ => simp
      rw [← h.2]; simp; omega
    · cases h
/-- What the readers of values leave. -/
structure Lens (f : Nat) : Prop where
  value : ∀ n l v rest, value f n l = .ok v rest → rest.length < l.length
  list : ∀ n l v rest, list f n l = .ok v rest → rest.length < l.length
  elems : ∀ n acc l v rest, elems f n acc l = .ok v rest → rest.length < l.length
  object : ∀ n l v rest, object f n l = .ok v rest → rest.length < l.length
  fields : ∀ n ns acc l v rest, fields f n ns acc l = .ok v rest → rest.length < l.length
theorem lens : ∀ f, Lens f
  | 0 => ⟨fun _ _ _ _ h => by simp [value] at h, fun _ _ _ _ h => by simp [list] at h, fun _ _ _ _ _ h => by simp [elems] at h, fun _ _ _ _ h => by simp [object] at h, fun _ _ _ _ _ _ h => by simp [fields] at h⟩
  | f + 1 => by
    have ih := lens f
    refine ⟨?_, ?_, ?_, ?_, ?_⟩
    · intro n l v rest h
      have hb := blanks_le l
      unfold value at h
      split at h
      · cases h
      · rename_i c r hl
        rw [hl] at hb
        have fin : ∀ m : List UInt8, m.length < (c :: r).length → m.length < l.length := fun m hm => by omega
        refine fin _ ?_
        simp only [List.length_cons]
        split at h
        · split at h
          · cases h
          · rename_i x l2 hx
            have := word_len hx
            simp only [Res.ok.injEq] at h
            rw [← h.2]; simp at this; omega
        · split at h
          · split at h
            · cases h
            · rename_i x l2 hx
              have := word_len hx
              simp only [Res.ok.injEq] at h
              rw [← h.2]; simp at this; omega
          · split at h
            · split at h
              · cases h
              · rename_i x l2 hx
                have := word_len hx
                simp only [Res.ok.injEq] at h
                rw [← h.2]; simp at this; omega
            · split at h
              · split at h
                · cases h
                · rename_i x l2 hx
                  have := text_len hx
                  simp only [Res.ok.injEq] at h
                  rw [← h.2]; simpa using this
              · split at h
                · split at h
                  · cases h
                  · have := ih.list _ _ _ _ h; omega
                · split at h
                  · split at h
                    · cases h
                    · have := ih.object _ _ _ _ h; omega
                  · split at h
                    · cases h
                    · rename_i x l2 hx
                      have := number_len hx
                      simp only [Res.ok.injEq] at h
                      rw [← h.2]; simpa using this
    · intro n l v rest h
      have hb := blanks_le l
      unfold list at h
      split at h
      · cases h
      · rename_i c r hl
        rw [hl] at hb
        simp only [List.length_cons] at hb
        split at h
        · simp only [Res.ok.injEq] at h
          rw [← h.2]; omega
        · have := ih.elems _ _ _ _ _ h
          simp at this; omega
    · intro n acc l v rest h
      unfold elems at h
      split at h
      · cases h
      · rename_i k l1 hk
        have h1 := ih.value _ _ _ _ hk
        have hb := blanks_le l1
        split at h
        · cases h
        · rename_i c r hl
          rw [hl] at hb
          simp only [List.length_cons] at hb
          split at h
          · simp only [Res.ok.injEq] at h
            rw [← h.2]; omega
          · split at h
            · have := ih.elems _ _ _ _ _ h
              omega
            · cases h
    · intro n l v rest h
      have hb := blanks_le l
      unfold object at h
      split at h
      · cases h
      · rename_i c r hl
        rw [hl] at hb
        simp only [List.length_cons] at hb
        split at h
        · simp only [Res.ok.injEq] at h
          rw [← h.2]; omega
        · have := ih.fields _ _ _ _ _ _ h
          simp at this; omega
    · intro n ns acc l v rest h
      have hb0 := blanks_le l
      unfold fields at h
      split at h
      · cases h
      · rename_i s l1 hs
        have h0 := text_len hs
        split at h
        · cases h
        · have hb := blanks_le l1
          split at h
          · cases h
          · rename_i c r hl
            rw [hl] at hb
            simp only [List.length_cons] at hb
            split at h
            · split at h
              · cases h
              · rename_i k l2 hk
                have h1 := ih.value _ _ _ _ hk
                have hb2 := blanks_le l2
                split at h
                · cases h
                · rename_i d r2 hl2
                  rw [hl2] at hb2
                  simp only [List.length_cons] at hb2
                  split at h
                  · simp only [Res.ok.injEq] at h
                    rw [← h.2]; omega
                  · split at h
                    · have := ih.fields _ _ _ _ _ _ h
                      omega
                    · cases h
            · cases h
end Go.Proofs.YtcmlppknfbndaaaDoor
