/-
  Arguments opened; the witness. Conditions: each lemma's own.
-/
import Derived.Test.YtcmlppknfbndaaaDoorLift
namespace Go.Proofs.YtcmlppknfbndaaaDoor
open Go.RowKit Js Go.ChangeShapes Go.WideShapes Go.ChangeAt

theorem cells5 : Tryd.prog.cellsOf 5 = 1 := by kernel_rfl

section
variable {H : Type} {enc : TypeId × Value → H}
set_option maxRecDepth 100000 in
/-- A slice of bytes that came in. -/
theorem open_bytes {W : World} {base : Nat} {v : Value} {d : DataW H} {p : List MemPlace} (hval : Value.okWide Tryd.prog W .any base 22 v) (h : DataW.Trod enc Tryd.prog W 0 (fun _ => true) true 22 v d p) (hW : 0 < W.heap.size) :
    ∃ b l, Slice W b v l ∧ b < W.heap.size := by
  obtain ⟨a1, len, cap, rfl⟩ := okWide_slice Tryd.underlying22 hval
  obtain ⟨fuel, hf⟩ := h
  rcases open_ints Tryd.underlying22 Tryd.underlying5 cells5 hf with ⟨hcs, hx⟩ | ⟨a, len', cap', zs, hcs, _, hl, hm, hz, hx, hcell, hwz⟩
  · simp [Value.cells] at hcs
    obtain ⟨rfl, rfl, rfl⟩ := hcs
    exact ⟨0, [], ⟨none, 0, rfl, Nat.le_refl _, by omega, fun h => (h rfl).elim⟩, hW⟩
  · simp [Value.cells] at hcs
    obtain ⟨rfl, rfl, rfl⟩ := hcs
    simp only [if_true] at hz
    have hlen : ((zs.take len).map fun n => UInt8.ofNat n.toNat).length = len := by simp; omega
    unfold maxLen at hm
    by_cases h0 : len = 0
    · subst h0
      exact ⟨0, [], ⟨_, _, rfl, Nat.zero_le _, by omega, fun h => (h rfl).elim⟩, hW⟩
    · obtain ⟨ab, ao, spot⟩ := a
      have hspot : spot = none := by simpa [Addr.add] using World.cell?_spot (hcell 0 (by omega))
      subst hspot
      have hlt : ab < W.heap.size := World.block_lt_of_cell? W ⟨ab, ao, none⟩ (by have := hcell 0 (by omega); rw [Addr.add_lit, Nat.add_zero] at this; exact this)
      refine ⟨ab, (zs.take len).map fun n => UInt8.ofNat n.toNat, ⟨some ⟨ab, ao, none⟩, cap, by rw [hlen], by rw [hlen]; exact hl, by omega, fun _ => ⟨ao, rfl, fun j hj => ?_⟩⟩, hlt⟩
      rw [hlen] at hj
      have hcj := hcell j (by omega)
      rw [Addr.add_lit] at hcj
      rw [hcj]
      have hb := range_u8 hwz j
      have e : zs.getD j 0 = zs[j]'(by omega) := by simp [List.getD, List.getElem?_eq_getElem (show j < zs.length by omega)]
      rw [List.getD_eq_getElem?_getD] at e
      rw [e] at hb
      rw [List.getD_eq_getElem?_getD, e]
      have hj2 : j < ((zs.take len).map fun n => UInt8.ofNat n.toNat).length := by rw [hlen]; exact hj
      rw [List.getD_eq_getElem?_getD, List.getElem?_eq_getElem hj2]
      simp only [List.getElem_map, List.getElem_take, Option.getD_some]
      congr 2
      simp only [UInt8.toNat_ofNat']
      omega
end

/-- An input that fits: the variables laid as the rows list them. -/
theorem witness_laid {H : Type} {enc : TypeId × Value → H} {C : Checked} {os : Os} {f : FuncId} {fn : Func} {s : OpenSpec} {conds : List PathCond} {apart : Bool} {laid : List (String × DataW Unit)} (modest : Bool) (w0 : World) (args : Array Value) (hos : w0.os = os)
    (hsh : (w0.forCall (fun _ _ => 0) ⟨#[], args, []⟩).Shaped C.prog)
    (hok : Input.okWideB C.prog (w0.forCall (fun _ _ => 0) ⟨#[], args, []⟩) f ⟨#[], args, []⟩ = true)
    (hrow : s.preRow enc C.prog fn conds apart laid (w0.forCall (fun _ _ => 0) ⟨#[], args, []⟩).memory args) :
    ∃ (w : World) (tape : Tape) (i : Input), w.os = os ∧ (w.forCall tape i).Shaped C.prog ∧ i.vars = [] ∧ Input.okWide C.prog (w.forCall tape i) .any w.heap.size f i ∧
      s.preRow enc C.prog fn conds apart laid (w.forCall tape i).memory i.args ∧ ({ modest := modest } : Assume).holds C.prog (lone (Frame.enter C.prog f i.args .normal) [] (w.forCall tape i)) :=
  ⟨w0, fun _ _ => 0, ⟨#[], args, []⟩, hos, hsh, (Input.okWide_of_okWideB (base := 0) hok).1, (Input.okWide_of_okWideB hok).2, hrow, by
    simp only [Assume.holds]
    exact ⟨by simp, by simp, fun _ => Modest.zero, by simp, by simp⟩⟩

theorem plainList : (laidList.all fun x => x.2.handleName?.isNone) = true := by kernel_rfl
theorem laidHeap {W : World} (h : laidMetH Tryd.prog laidList W) : Env W ∧ Deb W := by
  rw [MakeChecks.laidMetH_plain _ _ _ plainList] at h
  exact env_of h
theorem laid_met (os : Os) (args : Array Value) : laidMetH Tryd.prog laidList ((World.laidAll Tryd.prog os laidList).forCall (fun _ _ => 0) ⟨#[], args, []⟩).memory := by
  rw [MakeChecks.laidMetH_plain _ _ _ plainList]
  exact laidMet_laidAll _ (by kernel_rfl) (by kernel_rfl)
end Go.Proofs.YtcmlppknfbndaaaDoor
