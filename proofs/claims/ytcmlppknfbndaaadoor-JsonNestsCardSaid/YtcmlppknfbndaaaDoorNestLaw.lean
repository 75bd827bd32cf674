/-
  PLAIN LAWS OF VALUES WITHIN ONE ANOTHER, ONE IN EACH. Conditions: each lemma's own.
-/
import Derived.Test.YtcmlppknfbndaaaDoorLaw4
namespace Go.Proofs.YtcmlppknfbndaaaDoor.Js
open Go

def nestV (obj : Bool) : Nat → V
  | 0 => .mk 2 7 [] [] []
  | i + 1 => if obj then .mk 5 0 [] [nestV obj i] [[120]] else .mk 4 0 [] [nestV obj i] []
def openB (obj : Bool) : List UInt8 := if obj then [123, 34, 120, 34, 58] else [91]
def closeB (obj : Bool) : List UInt8 := if obj then [125] else [93]
def opens (obj : Bool) (i : Nat) : List UInt8 := (List.replicate i (openB obj)).flatten
def closes (obj : Bool) (i : Nat) : List UInt8 := (List.replicate i (closeB obj)).flatten
def nestB (obj : Bool) (k : Nat) : List UInt8 := opens obj k ++ [55] ++ closes obj k
theorem opens_next (obj : Bool) (i : Nat) : opens obj (i + 1) = opens obj i ++ openB obj := by
  unfold opens
  rw [List.replicate_succ', List.flatten_append]
  simp
theorem closes_next (obj : Bool) (i : Nat) : closes obj (i + 1) = closes obj i ++ closeB obj := by
  unfold closes
  rw [List.replicate_succ', List.flatten_append]
  simp
theorem opens_len (obj : Bool) (i : Nat) : (opens obj i).length ≤ 5 * i := by
  induction i with
  | zero => simp [opens]
  | succ i ih =>
    rw [opens_next, List.length_append]
    have : (openB obj).length ≤ 5 := by cases obj <;> decide
    omega
theorem closes_len (obj : Bool) (i : Nat) : (closes obj i).length = i := by
  induction i with
  | zero => simp [closes]
  | succ i ih =>
    rw [closes_next, List.length_append]
    have : (closeB obj).length = 1 := by cases obj <;> rfl
    omega

theorem nest_few (obj : Bool) (k : Nat) (h1 : 1 ≤ k) (h8 : k ≤ 8) : parse (nestB obj k) = (nestV obj k, 0) ∧ print (nestV obj k) = (nestB obj k, 0) ∧ may 8 (nestV obj k) = true := by
  have hk : k = 1 ∨ k = 2 ∨ k = 3 ∨ k = 4 ∨ k = 5 ∨ k = 6 ∨ k = 7 ∨ k = 8 := by omega
  cases obj <;> rcases hk with rfl | rfl | rfl | rfl | rfl | rfl | rfl | rfl <;> exact ⟨by kernel_rfl, by kernel_rfl, by kernel_rfl⟩
theorem nest_many (obj : Bool) (k : Nat) (h1 : 9 ≤ k) (h8 : k ≤ 12) : parse (nestB obj k) = (nul, 6) ∧ print (nestV obj k) = ([], 1) ∧ may 8 (nestV obj k) = false := by
  have hk : k = 9 ∨ k = 10 ∨ k = 11 ∨ k = 12 := by omega
  cases obj <;> rcases hk with rfl | rfl | rfl | rfl <;> exact ⟨by kernel_rfl, by kernel_rfl, by kernel_rfl⟩
theorem nest_put (obj : Bool) (k : Nat) (h : k ≤ 12) : (put (nestV obj k)).length ≤ 100 := by
  have hk : k = 0 ∨ k = 1 ∨ k = 2 ∨ k = 3 ∨ k = 4 ∨ k = 5 ∨ k = 6 ∨ k = 7 ∨ k = 8 ∨ k = 9 ∨ k = 10 ∨ k = 11 ∨ k = 12 := by omega
  cases obj <;> rcases hk with rfl | rfl | rfl | rfl | rfl | rfl | rfl | rfl | rfl | rfl | rfl | rfl | rfl <;> exact of_decide_eq_true (by kernel_rfl)
theorem nest_fits (obj : Bool) : ∀ k, Fits (nestV obj k)
  | 0 => ⟨by decide, by simp, by simp, by simp, trivial⟩
  | k + 1 => by
    unfold nestV
    split
    · exact ⟨by decide, by simp, by simp, by simp, nest_fits obj k, trivial⟩
    · exact ⟨by decide, by simp, by simp, by simp, nest_fits obj k, trivial⟩
theorem nest_next (obj : Bool) (i : Nat) : nestV obj (i + 1) = if obj then .mk 5 0 [] [nestV obj i] [[120]] else .mk 4 0 [] [nestV obj i] [] := rfl
end Go.Proofs.YtcmlppknfbndaaaDoor.Js
