/-
  json's bare. Conditions: each contract's own.
-/
import Derived.Test.YtcmlppknfbndaaaDoorParse
namespace Go.Proofs.YtcmlppknfbndaaaDoor
open Go.RowKit Js

def bareN (k n : Int) (t : List UInt8) (a b : Nat) : Bool := decide ((k = 1 ∨ k = 2 ∨ n = 0) ∧ (k = 3 ∨ t = []) ∧ (k = 4 ∨ k = 5 ∨ a = 0) ∧ b = if k = 5 then a else 0)
theorem bare_eq (k n : Int) (t : List UInt8) (ks : List V) (ns : List (List UInt8)) : bare (.mk k n t ks ns) = bareN k n t ks.length ns.length := by
  unfold bare bareN
  simp only [List.length_eq_zero_iff]

set_option maxHeartbeats 4000000 in
set_option maxRecDepth 100000 in
theorem bareN_any (k n : Int) (t : List UInt8) (p q : Option Addr) (a b c d : Nat) (w : World) :
    Calls Tryd.prog 35 #[.agg #[.int .u8 k, .int .i64 n, .string ⟨t.toArray⟩, .slice p a c, .slice q b d]] w fun e w' => e = .returned (.bool (bareN k n t a b)) ∧ Below w.heap.size w w' := by
  have hB2 : ∀ o o', Below w.heap.size w ((w.alloc o).alloc o') := fun o o' => ((Below.refl _ _).alloc (Nat.le_refl _) _).alloc (by simp) _
  have HB2 := Lib.hid hB2
  have hk : k = 1 ∨ k = 2 ∨ k = 3 ∨ k = 4 ∨ k = 5 ∨ ((k == 1) = false ∧ (k == 2) = false ∧ (k == 3) = false ∧ (k == 4) = false ∧ (k == 5) = false) := by
    simp only [beq_eq_false_iff_ne]; omega
  clear hB2
  rcases hk with rfl | rfl | rfl | rfl | rfl | ⟨h1, h2, h3, h4, h5⟩
  all_goals
    go_enter Tryd.func35, Tryd.ntmps35
    go_wp2
    all_goals
      go_ret
      refine ⟨?_, HB2.out _ _⟩
      simp_all [bareN]
      try (rw [Bool.eq_iff_iff]; simp only [beq_iff_eq, decide_eq_true_eq]; omega)
end Go.Proofs.YtcmlppknfbndaaaDoor
