/-
  A VALUE OF PACKAGE api AS IT LIES IN MEMORY. Plain lemmas. Conditions: none.
-/
import Derived.Test.YtcmlppknfbndaaaDoorNum
namespace Go.Proofs.YtcmlppknfbndaaaDoor
open Go.RowKit Js

/-- Cells that stand one behind the other. -/
def CellsAt (w : World) (g o : Nat) (l : List Value) : Prop := ∀ j u, l[j]? = some u → w.cell? ⟨g, o + j, none⟩ = some u
theorem CellsAt.same {w w' : World} {g o : Nat} {l : List Value} (h : CellsAt w g o l) (hs : w'.heap[g]? = w.heap[g]?) : CellsAt w' g o l := fun j u hj => by
  rw [World.cell?_of_block (w := w) (a := ⟨g, o + j, none⟩) hs]; exact h j u hj
theorem CellsAt.nil (w : World) (g o : Nat) : CellsAt w g o [] := fun j u hj => by simp at hj
theorem CellsAt.left {w : World} {g o : Nat} {l m : List Value} (h : CellsAt w g o (l ++ m)) : CellsAt w g o l := fun j u hj => h j u (by
  have := (List.getElem?_eq_some_iff.1 hj).1
  rw [List.getElem?_append_left this]; exact hj)
theorem CellsAt.right {w : World} {g o : Nat} {l m : List Value} (h : CellsAt w g o (l ++ m)) : CellsAt w g (o + l.length) m := fun j u hj => by
  have := h (l.length + j) u (by rw [List.getElem?_append_right (by omega)]; simpa using hj)
  rw [← Nat.add_assoc] at this
  exact this

def strs (ns : List (List UInt8)) : List Value := ns.map strv

/-- A slice whose cells are known; where there are any, they lie in a block that is 'ok'. -/
def RowAt (w : World) (ok : Nat → Prop) (v : Value) (n : Nat) (l : List Value) : Prop :=
  ∃ p c, v = .slice p n c ∧ n ≤ c ∧ c ≤ 9223372036854775807 ∧ (n ≠ 0 → ∃ g o, p = some ⟨g, o, none⟩ ∧ ok g ∧ CellsAt w g o l)
theorem RowAt.same {w w' : World} {ok : Nat → Prop} {v : Value} {n : Nat} {l : List Value} (h : RowAt w ok v n l) (hs : ∀ k, ok k → w'.heap[k]? = w.heap[k]?) : RowAt w' ok v n l := by
  obtain ⟨p, c, h1, h2, h3, h4⟩ := h
  exact ⟨p, c, h1, h2, h3, fun hn => by obtain ⟨g, o, a1, a2, a3⟩ := h4 hn; exact ⟨g, o, a1, a2, a3.same (hs g a2)⟩⟩
theorem RowAt.mono {w : World} {ok ok' : Nat → Prop} {v : Value} {n : Nat} {l : List Value} (h : RowAt w ok v n l) (hs : ∀ k, ok k → ok' k) : RowAt w ok' v n l := by
  obtain ⟨p, c, h1, h2, h3, h4⟩ := h
  exact ⟨p, c, h1, h2, h3, fun hn => by obtain ⟨g, o, a1, a2, a3⟩ := h4 hn; exact ⟨g, o, a1, hs g a2, a3⟩⟩
theorem RowAt.nil (w : World) (ok : Nat → Prop) : RowAt w ok (.slice none 0 0) 0 [] := ⟨none, 0, rfl, Nat.le_refl _, by omega, fun h => absurd rfl h⟩

mutual
/-- The five cells of a value, and what they lead to. -/
def VAt (w : World) (ok : Nat → Prop) : V → List Value → Prop
  | .mk k n t ks ns, cs => ∃ kv nv css, cs = [.int .u8 k, .int .i64 n, strv t, kv, nv] ∧ VAll w ok ks css ∧ RowAt w ok kv ks.length css.flatten ∧ RowAt w ok nv ns.length (strs ns)
def VAll (w : World) (ok : Nat → Prop) : List V → List (List Value) → Prop
  | [], css => css = []
  | v :: r, css => ∃ cs rs, css = cs :: rs ∧ VAt w ok v cs ∧ VAll w ok r rs
end
mutual
theorem VAt.same {w w' : World} {ok : Nat → Prop} (hs : ∀ k, ok k → w'.heap[k]? = w.heap[k]?) : ∀ (v : V) (cs : List Value), VAt w ok v cs → VAt w' ok v cs
  | .mk k n t ks ns, cs, h => by
    obtain ⟨kv, nv, css, h1, h2, h3, h4⟩ := h
    exact ⟨kv, nv, css, h1, VAll.same hs ks css h2, h3.same hs, h4.same hs⟩
theorem VAll.same {w w' : World} {ok : Nat → Prop} (hs : ∀ k, ok k → w'.heap[k]? = w.heap[k]?) : ∀ (ks : List V) (css : List (List Value)), VAll w ok ks css → VAll w' ok ks css
  | [], css, h => h
  | v :: r, css, h => by
    obtain ⟨cs, rs, h1, h2, h3⟩ := h
    exact ⟨cs, rs, h1, VAt.same hs v cs h2, VAll.same hs r rs h3⟩
end
mutual
theorem VAt.mono {w : World} {ok ok' : Nat → Prop} (hs : ∀ k, ok k → ok' k) : ∀ (v : V) (cs : List Value), VAt w ok v cs → VAt w ok' v cs
  | .mk k n t ks ns, cs, h => by
    obtain ⟨kv, nv, css, h1, h2, h3, h4⟩ := h
    exact ⟨kv, nv, css, h1, VAll.mono hs ks css h2, h3.mono hs, h4.mono hs⟩
theorem VAll.mono {w : World} {ok ok' : Nat → Prop} (hs : ∀ k, ok k → ok' k) : ∀ (ks : List V) (css : List (List Value)), VAll w ok ks css → VAll w ok' ks css
  | [], css, h => h
  | v :: r, css, h => by
    obtain ⟨cs, rs, h1, h2, h3⟩ := h
    exact ⟨cs, rs, h1, VAt.mono hs v cs h2, VAll.mono hs r rs h3⟩
end
theorem VAt.len {w : World} {ok : Nat → Prop} {v : V} {cs : List Value} (h : VAt w ok v cs) : cs.length = 5 := by
  cases v
  obtain ⟨kv, nv, css, h1, _⟩ := h
  rw [h1]; rfl
theorem VAll.len {w : World} {ok : Nat → Prop} : ∀ {ks : List V} {css : List (List Value)}, VAll w ok ks css → css.length = ks.length ∧ css.flatten.length = ks.length * 5
  | [], css, h => by
    have h' : css = [] := h
    subst h'; simp
  | v :: r, css, h => by
    obtain ⟨cs, rs, rfl, h2, h3⟩ := h
    obtain ⟨a, b⟩ := VAll.len h3
    have := h2.len
    simp [a]
    rw [this]
    have hb : (List.map List.length rs).sum = rs.flatten.length := by simp
    rw [hb, b]
    omega
theorem VAll.snoc {w : World} {ok : Nat → Prop} {v : V} {cs : List Value} (hv : VAt w ok v cs) : ∀ {ks : List V} {css : List (List Value)}, VAll w ok ks css → VAll w ok (ks ++ [v]) (css ++ [cs])
  | [], css, h => by
    have h' : css = [] := h
    subst h'
    exact ⟨cs, [], rfl, hv, rfl⟩
  | u :: r, css, h => by
    obtain ⟨c, rs, rfl, h2, h3⟩ := h
    exact ⟨c, rs ++ [cs], rfl, h2, VAll.snoc hv h3⟩
/-- A value's five cells are each one cell. -/
theorem VAt.one {w : World} {ok : Nat → Prop} {v : V} {cs : List Value} (h : VAt w ok v cs) : ∀ u ∈ cs, u.oneCell' = true := by
  cases v
  obtain ⟨kv, nv, css, h1, _, ⟨p, c, rfl, _⟩, ⟨q, d, rfl, _⟩⟩ := h
  subst h1
  intro u hu
  simp at hu
  rcases hu with rfl | rfl | rfl | rfl | rfl <;> rfl
theorem VAt.shape {w : World} {ok : Nat → Prop} {v : V} {cs : List Value} (h : VAt w ok v cs) : ∃ p c q d, cs = [.int .u8 v.kind, .int .i64 v.num, strv v.text, .slice p v.kids.length c, .slice q v.names.length d] ∧ v.kids.length ≤ c ∧ c ≤ 9223372036854775807 ∧ v.names.length ≤ d ∧ d ≤ 9223372036854775807 := by
  cases v
  obtain ⟨kv, nv, css, h1, _, ⟨p, c, rfl, a1, a2, _⟩, ⟨q, d, rfl, b1, b2, _⟩⟩ := h
  exact ⟨p, c, q, d, h1, a1, a2, b1, b2⟩

/-- What a call owns reads as a row. -/
theorem row_of_owned {w : World} {B : Nat} {e : TypeId} {size : Nat} {v : Value} {n : Nat} {xs : List Value} (h : w.ownsRow B e size v n xs) (ok : Nat → Prop) (hok : ∀ k, v.ownBlock = some k → ok k) : RowAt w ok v n xs := by
  have hc := @World.ownsRow.cells w B e size v n xs h
  rcases h.2 with ⟨rfl, rfl⟩ | ⟨g, cap, cur, rfl, hb, hg, hnc, hcm, hcs, htake⟩
  · have : xs = [] := List.eq_nil_of_length_eq_zero (by simpa using h.1)
    subst this
    exact RowAt.nil _ _
  · refine ⟨_, _, rfl, hnc, by unfold maxLen at hcm; omega, fun _ => ⟨g, 0, rfl, hok g rfl, fun j u hj => ?_⟩⟩
    have := hc (g := g) rfl j u hj
    rw [← this]
    unfold Addr.add
    split
    · rename_i h0; subst h0; rfl
    · rfl
end Go.Proofs.YtcmlppknfbndaaaDoor
