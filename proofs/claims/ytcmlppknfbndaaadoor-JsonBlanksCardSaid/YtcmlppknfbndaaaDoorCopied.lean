/-
  The law's own helper: copied. Conditions: each contract's own.
-/
import Derived.Test.YtcmlppknfbndaaaDoorSize
import Derived.Test.YtcmlppknfbndaaaDoorWorks
import Derived.Laws.AppendOwnNone
namespace Go.Proofs.YtcmlppknfbndaaaDoor
open Go.RowKit Js

theorem own_empty (w : World) : (w.alloc (.cells #[] 5)).ownsRow w.heap.size 5 1 (.slice (some ⟨w.heap.size, 0, none⟩) 0 0) 0 [] :=
  ⟨rfl, .inr ⟨w.heap.size, 0, #[], rfl, Nat.le_refl _, heap_alloc_new w _, Nat.le_refl _, Nat.zero_le _, rfl, rfl⟩⟩
theorem byteCells_len (l : List UInt8) : (Lib.byteCells l).length = l.length * 1 := by simp [Lib.byteCells]
theorem byteCells_one (l : List UInt8) : ∀ u ∈ Lib.byteCells l, u.oneCell' = true := fun u hu => by
  simp only [Lib.byteCells, List.mem_map] at hu
  obtain ⟨b, _, rfl⟩ := hu
  rfl
theorem bytes_cells {w : World} {b o : Nat} {l : List UInt8} (h : Bytes w b o l) : ∀ j u, (Lib.byteCells l)[j]? = some u → w.cell? ((⟨b, o, none⟩ : Addr).add j) = some u := fun j u hj => by
  have hjl : j < l.length := by have := (List.getElem?_eq_some_iff.1 hj).1; simpa [Lib.byteCells] using this
  have hadd : (⟨b, o, none⟩ : Addr).add j = ⟨b, o + j, none⟩ := by unfold Addr.add; split <;> simp_all
  rw [hadd, h j hjl, ← hj]
  simp [Lib.byteCells, List.getD, hjl]

set_option maxHeartbeats 1000000 in
set_option maxRecDepth 100000 in
theorem copied_any (b : Nat) (l : List UInt8) (v : Value) (w : World) (hv : Slice w b v l) (hnil : ∀ n c, v = .slice none n c → c = 0) (hl : l.length ≤ 140737488355328) :
    Calls Tryd.prog 13 #[v] w fun e w' => ∃ v', e = .returned v' ∧ w'.ownsRow w.heap.size 5 1 v' l.length (Lib.byteCells l) ∧ Fr w.heap.size w w' := by
  obtain ⟨i0, hi, hz0, hz1, hz2⟩ := info_parts info8
  have HOE := Lib.hid (own_empty w)
  have HFA := Lib.hid ((Fr.refl w.heap.size w).alloc (Nat.le_refl _) (.cells #[] 5))
  have HSZ : Hid (w.heap.size ≤ (w.alloc (.cells #[] 5)).heap.size) := Lib.hid (by simp)
  have hv0 := hv
  obtain ⟨p, c, rfl, h1, h2, h3⟩ := hv
  cases p with
  | none =>
    have hc := hnil _ _ rfl
    subst hc
    have h0 : l = [] := List.eq_nil_of_length_eq_zero (by omega)
    subst h0
    clear hnil h3 hv0
    go_enter Tryd.func13, Tryd.ntmps13
    go_wp2_with (first | (at_builtin; refine wpList_append_own_none rfl _ _ 22 rfl w.heap.size 5 i0 1 Tryd.underlying22 hi _ 0 [] rfl HOE.out rfl ?_))
    go_ret
    exact ⟨_, rfl, HOE.out, HFA.out⟩
  | some a =>
    have hnews : ∀ W, Below w.heap.size w W → ∀ j u, (Lib.byteCells l)[j]? = some u → W.cell? (a.add j) = some u := fun W hW j u hj => by
      have hne : l ≠ [] := by intro e; subst e; simp [Lib.byteCells] at hj
      obtain ⟨o, e, hB⟩ := h3 hne
      injection e with e
      subst e
      exact bytes_cells (hB.below hW (hB.lt hne)) j u hj
    have HNW := Lib.hid hnews
    have HN2 : Hid (0 + l.length ≤ maxLen ∧ (0 + l.length) * 1 ≤ 140737488355328) := Lib.hid (by unfold maxLen; omega)
    clear hnil h3 hv0 hnews
    go_enter Tryd.func13, Tryd.ntmps13
    go_wp2_with (first | (at_builtin; refine wpList_append_fresh _ rfl _ _ 22 rfl w.heap.size 5 i0 (.int .u8 0) 1 1 Tryd.underlying22 hi hz0 hz1 hz2 rfl (by decide) _ 0 [] rfl HOE.out a l.length c (Lib.byteCells l) rfl (byteCells_len l) (HNW.out _ HFA.out.below) (byteCells_one l) HN2.out.1 HN2.out.2 HSZ.out ?_; intro v1 w1 hv' hg' hf'; have HV1 := Lib.hid hv'; have HF1 := Lib.hid (HFA.out.trans (Fr.of_grown HOE.out HSZ.out hg')); clear hv' hg' hf'))
    go_ret
    refine ⟨v1, rfl, ?_, HF1.out⟩
    have := HV1.out
    rw [Nat.zero_add, List.nil_append] at this
    exact this
end Go.Proofs.YtcmlppknfbndaaaDoor
