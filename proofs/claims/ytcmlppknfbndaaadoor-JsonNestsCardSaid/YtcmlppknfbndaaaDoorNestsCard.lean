/-
  JsonNests: for every byte and every bool the law answers true: lists (or objects) within one another, as many as may be (eight) are printed and read, and no more. Conditions: none beside the given card's own.
-/
import Derived.Test.YtcmlppknfbndaaaDoorLift2
import Derived.Test.YtcmlppknfbndaaaDoorNests3
namespace Go.Proofs.YtcmlppknfbndaaaDoor
open Go.RowKit Js Go.ChangeShapes Go.WideShapes Go.ChangeAt

theorem nests_reads (os : Os) {H : Type} (enc : TypeId × Value → H) : ∃ places, DataW.whole enc Tryd.prog ((World.laidAll Tryd.prog os laidList).forCall (fun _ _ => 0) ⟨#[], #[.int .u8 0, .bool false], []⟩).memory Tryd.f5.params.toList Rows.jsonNestsSpec.vars false #[Value.int .u8 0, Value.bool false].toList 8 = some ([.lit (.int .u8 0), .lit (.bool false)], [], places) :=
  ⟨[], by kernel_rfl⟩

set_option maxRecDepth 100000 in
theorem nests_lifted (os : Os) (started : os.Started) (H : Type) (enc : TypeId × Value → H) (F : Stop.Interp) :
    ReturnsInHanded {} Tryd.checked os 5 .any ((OpenSpec.ofChange Rows.jsonNestsSpec).preRow enc Tryd.prog Tryd.f5 Rows.jsonNestsRow.domain false Rows.jsonNestsRow.laid) (((OpenSpec.ofChange Rows.jsonNestsSpec).at F).post enc Tryd.prog Tryd.f5 false true false false) := by
  obtain ⟨places, hx⟩ := nests_reads os enc
  refine returnsInHanded_of_row (C := Tryd.checked) (s := OpenSpec.ofChange Rows.jsonNestsSpec) own started (by kernel_rfl) Tryd.func5
    (witness_laid (enc := enc) (C := Tryd.checked) false (World.laidAll Tryd.prog os laidList) #[.int .u8 0, .bool false] (World.laidAll_os _ _ _) (World.shaped_of_ZipB (by kernel_rfl) (by kernel_rfl)) (by kernel_rfl)
      (OpenSpec.preRow_of_cond 8 hx (by kernel_rfl) (fun k hk => by cases hk) (by kernel_rfl) (laid_met os _))) ?_
  intro W base args ds gs before hval hW _ _ _ hL _ _
  have hW' := hW
  have hL' : laidMetH Tryd.prog laidList W := hL
  obtain ⟨hE, hD⟩ := laidHeap hL'
  obtain ⟨p, q, hA0, hV, rfl, hfz, hnd⟩ := hW
  have hA : DataW.TrodAll enc Tryd.prog W 0 (fun _ => true) true Tryd.f5.params.toList args.toList ds p := hA0
  have hval' : ∀ (j : Nat) t v, Tryd.f5.params[j]? = some t → args[j]? = some v → Value.okWide Tryd.prog W .any base t v := hval
  rw [Tryd.params5] at hA hval'
  obtain ⟨v0, v1, d0, d1, p0, p1, rfl, rfl, rfl, h0, h1⟩ := trodAll_two hA
  obtain ⟨x, rfl, rfl, rfl, wx⟩ := open_int Tryd.underlying5 (hval' 0 5 v0 rfl rfl) h0
  obtain ⟨ob, rfl, rfl, rfl⟩ := open_bool Tryd.underlying4 (hval' 1 4 v1 rfl rfl) h1
  obtain ⟨rfl, rfl⟩ := trodVars_none hV
  have hx := bounds_u8 wx
  obtain ⟨n, rfl⟩ : ∃ n : Nat, x = n := ⟨x.toNat, by omega⟩
  have hcall : Calls Tryd.prog 5 #[.int .u8 n, .bool ob] W fun e w' => e = .returned (.bool true) ∧ Below W.heap.size W w' := by
    cases ob
    · exact json_nests_list n (by omega) W hE hD
    · exact json_nests_object n (by omega) W hE hD
  refine hcall.mono fun e W' ⟨he, hbl⟩ => ?_
  subst he
  exact ⟨_, rfl, law_post hW' rfl rfl (by kernel_rfl) (fun t ht => by
    have ht' : t ∈ [5, 4] := ht
    simp only [List.mem_cons, List.not_mem_nil, or_false] at ht'
    rcases ht' with rfl | rfl
    · exact ⟨by kernel_rfl, of_decide_eq_true (by kernel_rfl)⟩
    · exact ⟨by kernel_rfl, of_decide_eq_true (by kernel_rfl)⟩) hbl⟩

theorem nests_said : Rows.JsonNestsSaid :=
  OpenClaim.holds_of_cond 5 Tryd.f5 rfl rfl rfl rfl rfl rfl rfl ⟨rfl, rfl, rfl, rfl, rfl⟩ rfl rfl rfl rfl rfl (by kernel_rfl) Tryd.func5 (by kernel_rfl)
    (of_decide_eq_true (by kernel_rfl)) (by unfold Func.isWrapper; first | (rw [if_pos (by decide +kernel)]; kernel_rfl) | (rw [if_neg (by decide +kernel)]; exact ⟨rfl, rfl⟩))
    (fun os started H enc _ F => by rw [OpenClaim.pre_eq_preRow]; exact nests_lifted os started H enc F)

theorem nests_plain (f : FuncId) (fn : Func) (hf : Tryd.pinned.checked.prog.funcNamed "scantling/scantlinglaw06.JsonNests" = some f) (hfn : Tryd.pinned.checked.prog.funcs[f]? = some fn) :
    true = Tryd.pinned.checked.prog.looks [] ∧ ∀ (j : Nat) t, fn.params[j]? = some t → Tryd.pinned.checked.prog.wantsStandIn t = false := by
  obtain rfl : f = 5 := Option.some.inj ((show Tryd.prog.funcNamed "scantling/scantlinglaw06.JsonNests" = some 5 by kernel_rfl).symm.trans hf) |>.symm
  obtain rfl : fn = Tryd.f5 := (Option.some.inj (Tryd.func5.symm.trans hfn)).symm
  refine ⟨by kernel_rfl, fun j t ht => ?_⟩
  rw [Tryd.params5] at ht
  have hm : t ∈ [5, 4] := by simpa using Array.mem_of_getElem? ht
  have hall : ([5, 4].all fun u => !Tryd.prog.wantsStandIn u) = true := by kernel_rfl
  exact (show Tryd.prog.wantsStandIn t = false by simpa using List.all_eq_true.1 hall t hm)

theorem nests_card : Rows.JsonNestsCardSaid :=
  Claim7.holds_tied_plain_at .later [] _ _ _ _ nests_said (fun _ h => by cases h) (by kernel_rfl) (fun _ h => by cases h) jsonNests_row_tie rfl ⟨rfl, rfl⟩ (by kernel_rfl) rfl nests_plain (by kernel_rfl)
#print axioms nests_card
end Go.Proofs.YtcmlppknfbndaaaDoor
