/-
  PLAIN LAWS OF BLANKS ROUND A VALUE. Conditions: each lemma's own.
-/
import Derived.Test.YtcmlppknfbndaaaDoorLaw4
import Derived.Test.YtcmlppknfbndaaaDoorSizeLaw
namespace Go.Proofs.YtcmlppknfbndaaaDoor.Js
open Go

/-- The blank that a byte stands for. -/
def spc (c : UInt8) : UInt8 := if c.toNat % 4 = 0 then 32 else if c.toNat % 4 = 1 then 9 else if c.toNat % 4 = 2 then 10 else 13
def spcs (l : List UInt8) : List UInt8 := l.map spc
theorem spcs_blank (l : List UInt8) : ∀ c ∈ spcs l, ([32, 9, 10, 13] : List UInt8).contains c = true := by
  intro c hc
  unfold spcs at hc
  obtain ⟨x, _, rfl⟩ := List.mem_map.1 hc
  unfold spc
  split
  · rfl
  · split
    · rfl
    · split <;> rfl
theorem spcs_next (l : List UInt8) (k : Nat) (h : k < l.length) : spcs (l.take (k + 1)) = spcs (l.take k) ++ [spc l[k]] := by
  unfold spcs
  rw [List.take_succ_eq_append_getElem h, List.map_append]
  rfl
theorem blank_nodigit {c : UInt8} (h : ([32, 9, 10, 13] : List UInt8).contains c = true) : isDigit c = false := by
  have key : ∀ n < 256, ([32, 9, 10, 13] : List UInt8).contains (UInt8.ofNat n) = true → isDigit (UInt8.ofNat n) = false := by decide +kernel
  have := key c.toNat c.toNat_lt
  rw [UInt8.ofNat_toNat] at this
  exact this h
theorem parse_round (v : V) (bl : List UInt8) (hm : may 8 v = true) (hf : Fits v) (h1 : bl.length ≤ 300) (h2 : (put v).length ≤ 16384) : parse (spcs bl ++ put v ++ spcs bl) = (v, 0) := by
  have hl : (spcs bl).length = bl.length := by simp [spcs]
  rw [List.append_assoc, parse_put v (spcs bl) (spcs bl) hm hf (spcs_blank bl) (fun _ c r e => blank_nodigit (spcs_blank bl c (by rw [e]; simp))) (by simp only [List.length_append]; omega), blanks_all (spcs_blank bl)]
  rfl
theorem parse_more (v : V) (bl : List UInt8) (c : UInt8) (hm : may 8 v = true) (hf : Fits v) (h1 : bl.length ≤ 300) (h2 : (put v).length ≤ 16384) (hk : 4 ≤ v.kind) (hc : ([32, 9, 10, 13] : List UInt8).contains c = false) : parse (spcs bl ++ put v ++ spcs bl ++ [c]) = (nul, 5) := by
  have hl : (spcs bl).length = bl.length := by simp [spcs]
  rw [List.append_assoc, List.append_assoc, parse_put v (spcs bl) (spcs bl ++ [c]) hm hf (spcs_blank bl) (fun e => by omega) (by simp only [List.length_append, List.length_cons, List.length_nil]; omega), blanks_app (spcs_blank bl), blanks_of hc]
  rfl
theorem may_kind {nest : Int} {v : V} (h : may nest v = true) : 0 ≤ v.kind ∧ v.kind ≤ 5 := by
  obtain ⟨k, n, t, ks, ns⟩ := v
  rw [may_iff] at h
  unfold MayIs at h
  show 0 ≤ k ∧ k ≤ 5
  omega
end Go.Proofs.YtcmlppknfbndaaaDoor.Js
