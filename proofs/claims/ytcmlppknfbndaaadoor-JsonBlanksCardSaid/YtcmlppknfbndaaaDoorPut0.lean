/-
  json's put: its frame, and what it is to show. Conditions: each lemma's own.
-/
import Derived.Test.YtcmlppknfbndaaaDoorMayTop
import Derived.Lib.AppendStr
import Derived.Lib.OthersKept
namespace Go.Proofs.YtcmlppknfbndaaaDoor
open Go.RowKit Js

/-- What put leaves of the memory: all below B, and every block that holds no bytes. -/
structure Fr (B : Nat) (w w' : World) : Prop where
  below : Below B w w'
  others : Lib.OthersKept 5 none w w'
theorem Fr.refl (B : Nat) (w : World) : Fr B w w := ⟨Below.refl _ _, Lib.OthersKept.refl _ _ _⟩
theorem Fr.trans {B : Nat} {a b c : World} (h : Fr B a b) (k : Fr B b c) : Fr B a c := ⟨h.below.trans k.below, h.others.trans k.others⟩
theorem Fr.of_grown {B n : Nat} {w w' : World} {sv : Value} {xs : List Value} (h : w.ownsRow B 5 1 sv n xs) (hB : B ≤ w.heap.size) (g : w.grownBy w' sv.ownBlock) : Fr B w w' := by
  refine ⟨below_of_grown (Below.refl _ _) g hB (fun k hk => (h.lt k hk).1), fun k o ho _ hne => ?_⟩
  have hlt : k < w.heap.size := (Array.getElem?_eq_some_iff.1 ho).1
  rw [g.block k hlt ?_]
  · exact ho
  · intro e
    rcases h.2 with ⟨rfl, _⟩ | ⟨i, cap, cur, rfl, _, hg, _⟩
    · cases e
    · simp only [Value.ownBlock, Option.some.injEq] at e
      subst e
      rw [hg] at ho
      cases ho
      exact hne _ _ rfl
theorem Fr.alloc {B : Nat} {w w' : World} (h : Fr B w w') (hB : B ≤ w'.heap.size) (o : Obj) : Fr B w (w'.alloc o) :=
  ⟨h.below.alloc hB o, fun k o' ho hb hne => by
    have := h.others k o' ho hb hne
    rw [Below.heap_alloc _ _ _ (Array.getElem?_eq_some_iff.1 this).1]; exact this⟩

def PutOk (v : V) : Prop := ∀ (cs : List Value) (w : World) (ok : Nat → Prop) (B n : Nat) (sv : Value) (xs : List Value) (nest : Int), (∀ k, ok k → k < B) → VAt w ok v cs → FitV v → may nest v = true → Env w → Deb w → NG ≤ B → 7 < B → B ≤ w.heap.size →
  w.ownsRow B 5 1 sv n xs → n + 6 * (put v).length + 21 ≤ 140737488355328 →
  Calls Tryd.prog 19 #[sv, .agg cs.toArray] w fun e w' => ∃ v', e = .returned v' ∧ w'.ownsRow B 5 1 v' (n + (put v).length) (xs ++ Lib.byteCells (put v)) ∧ Fr B w w'

theorem esc_pos (c : UInt8) : 1 ≤ (esc c).length := by
  unfold esc
  repeat' split
  all_goals simp
theorem quoted_len : ∀ t : List UInt8, t.length + 2 ≤ (Js.quoted t).length := by
  intro t
  have h : ∀ l : List UInt8, l.length ≤ (l.flatMap esc).length := by
    intro l
    induction l with
    | nil => simp
    | cons c l ih => rw [List.flatMap_cons, List.length_append, List.length_cons]; have := esc_pos c; omega
  have := h t
  unfold Js.quoted
  simp only [List.length_append, List.length_cons, List.length_nil]
  omega
theorem strCells_byte (l : List UInt8) : Lib.strCells ⟨l.toArray⟩ = Lib.byteCells l := rfl
end Go.Proofs.YtcmlppknfbndaaaDoor
