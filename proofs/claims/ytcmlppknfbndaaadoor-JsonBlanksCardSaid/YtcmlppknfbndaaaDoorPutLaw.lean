/-
  The bytes of the kids so far. Plain lemmas. Conditions: none.
-/
import Derived.Test.YtcmlppknfbndaaaDoorPut0
namespace Go.Proofs.YtcmlppknfbndaaaDoor
open Go.RowKit Js

theorem putKids_snoc (obj : Bool) (v : V) : ∀ (f : Bool) (ks : List V) (ns : List (List UInt8)), putKids obj f (ks ++ [v]) ns =
    putKids obj f ks ns ++ ((if f && ks.isEmpty then [] else [44]) ++ (if obj then Js.quoted ((ns.drop ks.length).headD []) ++ [58] else []) ++ put v)
  | f, [], ns => by
    cases f <;> simp [putKids]
  | f, u :: r, ns => by
    rw [List.cons_append, putKids, putKids_snoc obj v false r ns.tail, putKids]
    have e : (ns.drop (u :: r).length).headD [] = (ns.tail.drop r.length).headD [] := by
      rw [List.drop_tail]; rfl
    rw [e]
    simp [List.append_assoc]

theorem putKids_take_len (obj : Bool) : ∀ (j : Nat) (f : Bool) (ks : List V) (ns : List (List UInt8)), (putKids obj f (ks.take j) ns).length ≤ (putKids obj f ks ns).length
  | 0, f, ks, ns => by rw [List.take_zero, putKids]; simp
  | j + 1, f, [], ns => by simp
  | j + 1, f, v :: r, ns => by
    rw [List.take_succ_cons, putKids, putKids]
    have := putKids_take_len obj j false r ns.tail
    simp only [List.length_append]
    omega
/-- What the kids' round kk puts. -/
theorem putKids_next (obj : Bool) (ks : List V) (ns : List (List UInt8)) (kk : Nat) (hk : kk < ks.length) : putKids obj true (ks.take (kk + 1)) ns =
    putKids obj true (ks.take kk) ns ++ ((if kk = 0 then [] else [44]) ++ (if obj then Js.quoted (ns.getD kk []) ++ [58] else []) ++ put ks[kk]) := by
  rw [List.take_succ_eq_append_getElem hk, putKids_snoc]
  have hl : (ks.take kk).length = kk := by rw [List.length_take]; omega
  have e1 : ((ns.drop (ks.take kk).length).headD []) = ns.getD kk [] := by
    rw [hl]
    simp [List.getD, List.headD_eq_head?_getD, List.head?_drop]
  have e2 : (true && (ks.take kk).isEmpty) = decide (kk = 0) := by
    rw [Bool.true_and, Bool.eq_iff_iff, decide_eq_true_eq, List.isEmpty_iff, ← List.length_eq_zero_iff, hl]
  rw [e1, e2]
  by_cases h0 : kk = 0 <;> simp [h0]
theorem mayAll_get (nest : Int) : ∀ (ks : List V), mayAll nest ks = true → ∀ v ∈ ks, may nest v = true
  | [], _, v, hv => by simp at hv
  | u :: r, h, v, hv => by
    unfold mayAll at h
    rw [Bool.and_eq_true] at h
    rcases List.mem_cons.1 hv with rfl | hv
    · exact h.1
    · exact mayAll_get nest r h.2 v hv
end Go.Proofs.YtcmlppknfbndaaaDoor
