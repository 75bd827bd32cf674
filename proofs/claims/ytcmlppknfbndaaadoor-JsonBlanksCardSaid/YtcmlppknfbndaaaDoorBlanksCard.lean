/-
  JsonBlanks: for every value, every slice of bytes and every byte the law answers true, and the arguments read as they did: blanks ahead of and behind a value say nothing; a byte that is no blank, behind a list or an object, makes it none. Conditions: none beside the given card's own.
-/
import Derived.Test.YtcmlppknfbndaaaDoorOpenV
import Derived.Test.YtcmlppknfbndaaaDoorBlanks
namespace Go.Proofs.YtcmlppknfbndaaaDoor
open Go.RowKit Js Go.ChangeShapes Go.WideShapes Go.ChangeAt

mutual
theorem fits_of : ∀ v : V, FitV v → Fits v
  | .mk _ _ _ ks _, h => ⟨h.1, h.2.1, h.2.2.1, h.2.2.2.1, fitsAll_of ks h.2.2.2.2⟩
theorem fitsAll_of : ∀ ks : List V, FitAll ks → FitsAll ks
  | [], _ => trivial
  | v :: r, h => ⟨fits_of v h.1, fitsAll_of r h.2⟩
end

theorem blanks_reads (os : Os) {H : Type} (enc : TypeId × Value → H) : ∃ places, DataW.whole enc Tryd.prog ((World.laidAll Tryd.prog os laidList).forCall (fun _ _ => 0) ⟨#[], #[.agg #[.int .u8 0, .int .i64 0, .string ⟨#[]⟩, .slice none 0 0, .slice none 0 0], .slice none 0 0, .int .u8 0], []⟩).memory Tryd.f4.params.toList Rows.jsonBlanksSpec.vars false #[Value.agg #[.int .u8 0, .int .i64 0, .string ⟨#[]⟩, .slice none 0 0, .slice none 0 0], Value.slice none 0 0, Value.int .u8 0].toList 8 = some ([.agg [.lit (.int .u8 0), .lit (.int .i64 0), .lit (.string []), .nil, .nil], .nil, .lit (.int .u8 0)], [], places) :=
  ⟨[], by kernel_rfl⟩

set_option maxRecDepth 100000 in
theorem blanks_lifted (os : Os) (started : os.Started) (H : Type) (enc : TypeId × Value → H) (F : Stop.Interp) :
    ReturnsInHanded {} Tryd.checked os 4 .any ((OpenSpec.ofChange Rows.jsonBlanksSpec).preRow enc Tryd.prog Tryd.f4 Rows.jsonBlanksRow.domain false Rows.jsonBlanksRow.laid) (((OpenSpec.ofChange Rows.jsonBlanksSpec).at F).post enc Tryd.prog Tryd.f4 false true false false) := by
  obtain ⟨places, hx⟩ := blanks_reads os enc
  refine returnsInHanded_of_row (C := Tryd.checked) (s := OpenSpec.ofChange Rows.jsonBlanksSpec) own started (by kernel_rfl) Tryd.func4
    (witness_laid (enc := enc) (C := Tryd.checked) false (World.laidAll Tryd.prog os laidList) #[.agg #[.int .u8 0, .int .i64 0, .string ⟨#[]⟩, .slice none 0 0, .slice none 0 0], .slice none 0 0, .int .u8 0] (World.laidAll_os _ _ _) (World.shaped_of_ZipB (by kernel_rfl) (by kernel_rfl)) (by kernel_rfl)
      (OpenSpec.preRow_of_cond 8 hx (by kernel_rfl) (fun k hk => by cases hk) (by kernel_rfl) (laid_met os _))) ?_
  intro W base args ds gs before hval hW _ _ hwt hL _ _
  have hW' := hW
  have hL' : laidMetH Tryd.prog laidList W := hL
  obtain ⟨hE, hD⟩ := laidHeap hL'
  have hNG := hE.size
  obtain ⟨p, q, hA0, hV0, rfl, hfz, hnd⟩ := hW
  have hA : DataW.TrodAll enc Tryd.prog W 0 (fun _ => true) true Tryd.f4.params.toList args.toList ds p := hA0
  have hval' : ∀ (j : Nat) t v, Tryd.f4.params[j]? = some t → args[j]? = some v → Value.okWide Tryd.prog W .any base t v := hval
  rw [Tryd.params4] at hA hval'
  obtain ⟨v0, v1, v2, d0, d1, d2, p0, p1, p2, rfl, rfl, rfl, h0, h1, h2⟩ := trodAll_three hA
  obtain ⟨cs, rfl, hsz⟩ := okWide_struct Tryd.underlying27 (hval' 0 27 v0 rfl rfl)
  obtain ⟨fu, hfu⟩ := h0
  obtain ⟨v, hV, hfit, hlim⟩ := open_value fu _ _ hfu (fun n hn => by
    have := List.all_eq_true.1 hwt n (DataW.weights_mem_each (t := 27) (j := 0) (by rw [Tryd.params4]; rfl) rfl n hn)
    simpa using this)
  obtain ⟨b, l, hS, hb⟩ := open_bytes (hval' 1 22 v1 rfl rfl) h1 (by unfold NG at hNG; omega)
  obtain ⟨x, rfl, rfl, rfl, wx⟩ := open_int Tryd.underlying5 (hval' 2 5 v2 rfl rfl) h2
  obtain ⟨rfl, rfl⟩ := trodVars_none hV0
  have hx := bounds_u8 wx
  obtain ⟨n, rfl⟩ : ∃ n : Nat, x = n := ⟨x.toNat, by omega⟩
  refine (json_blanks v cs.toList b l v1 n (by omega) W (fun k => k < W.heap.size) (fun _ h => h) hV hfit hlim (fits_of v hfit) hS hb hE hD).mono fun e W' ⟨he, hbl⟩ => ?_
  subst he
  exact ⟨_, rfl, law_post hW' rfl rfl (by kernel_rfl) (fun t ht => by
    have ht' : t ∈ [27, 22, 5] := ht
    simp only [List.mem_cons, List.not_mem_nil, or_false] at ht'
    rcases ht' with rfl | rfl | rfl
    · exact ⟨by kernel_rfl, of_decide_eq_true (by kernel_rfl)⟩
    · exact ⟨by kernel_rfl, of_decide_eq_true (by kernel_rfl)⟩
    · exact ⟨by kernel_rfl, of_decide_eq_true (by kernel_rfl)⟩) hbl⟩

theorem blanks_said : Rows.JsonBlanksSaid :=
  OpenClaim.holds_of_cond 4 Tryd.f4 rfl rfl rfl rfl rfl rfl rfl ⟨rfl, rfl, rfl, rfl, rfl⟩ rfl rfl rfl rfl rfl (by kernel_rfl) Tryd.func4 (by kernel_rfl)
    (of_decide_eq_true (by kernel_rfl)) (by unfold Func.isWrapper; first | (rw [if_pos (by decide +kernel)]; kernel_rfl) | (rw [if_neg (by decide +kernel)]; exact ⟨rfl, rfl⟩))
    (fun os started H enc _ F => by rw [OpenClaim.pre_eq_preRow]; exact blanks_lifted os started H enc F)

theorem blanks_plain (f : FuncId) (fn : Func) (hf : Tryd.pinned.checked.prog.funcNamed "scantling/scantlinglaw06.JsonBlanks" = some f) (hfn : Tryd.pinned.checked.prog.funcs[f]? = some fn) :
    true = Tryd.pinned.checked.prog.looks [] ∧ ∀ (j : Nat) t, fn.params[j]? = some t → Tryd.pinned.checked.prog.wantsStandIn t = false := by
  obtain rfl : f = 4 := Option.some.inj ((show Tryd.prog.funcNamed "scantling/scantlinglaw06.JsonBlanks" = some 4 by kernel_rfl).symm.trans hf) |>.symm
  obtain rfl : fn = Tryd.f4 := (Option.some.inj (Tryd.func4.symm.trans hfn)).symm
  refine ⟨by kernel_rfl, fun j t ht => ?_⟩
  rw [Tryd.params4] at ht
  have hm : t ∈ [27, 22, 5] := by simpa using Array.mem_of_getElem? ht
  have hall : ([27, 22, 5].all fun u => !Tryd.prog.wantsStandIn u) = true := by kernel_rfl
  exact (show Tryd.prog.wantsStandIn t = false by simpa using List.all_eq_true.1 hall t hm)

theorem blanks_card : Rows.JsonBlanksCardSaid :=
  Claim7.holds_tied_plain_at .later [] _ _ _ _ blanks_said (fun _ h => by cases h) (by kernel_rfl) (fun _ h => by cases h) jsonBlanks_row_tie rfl ⟨rfl, rfl⟩ (by kernel_rfl) rfl blanks_plain (by kernel_rfl)
#print axioms blanks_card
end Go.Proofs.YtcmlppknfbndaaaDoor
