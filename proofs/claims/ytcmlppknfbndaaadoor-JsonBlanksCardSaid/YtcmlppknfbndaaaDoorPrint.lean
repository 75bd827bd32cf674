/-
  json's Print. Conditions: each contract's own.
-/
import Derived.Test.YtcmlppknfbndaaaDoorPut
namespace Go.Proofs.YtcmlppknfbndaaaDoor
open Go.RowKit Js

theorem own_nil (w : World) (B : Nat) (e : TypeId) : w.ownsRow B e 1 (.slice none 0 0) 0 [] := ⟨rfl, .inl ⟨rfl, rfl⟩⟩

set_option maxHeartbeats 4000000 in
set_option maxRecDepth 100000 in
theorem print_any (v : V) (cs : List Value) (w : World) (ok : Nat → Prop) (hok : ∀ k, ok k → k < w.heap.size) (hV : VAt w ok v cs) (hfit : FitV v) (hE : Env w) (hD : Deb w) (hlen : 6 * (put v).length + 21 ≤ 140737488355328) :
    Calls Tryd.prog 8 #[.agg cs.toArray] w fun e w' => ∃ v', e = .returned (.tuple #[v', .int .i64 (Js.print v).2]) ∧ w'.ownsRow w.heap.size 5 1 v' (Js.print v).1.length (Lib.byteCells (Js.print v).1) ∧ Fr w.heap.size w w' := by
  obtain ⟨p, c, q, d, hcs, _, _, _, _⟩ := hV.shape
  simp only [strv] at hcs
  have hB0 : Below w.heap.size w (w.alloc (Obj.cells cs.toArray 27)) := (Below.refl _ _).alloc (Nat.le_refl _) _
  have hM := May_any v cs (w.alloc (Obj.cells cs.toArray 27)) ok (fun k hk => by have := hok k hk; simp; omega) (VAt.same (fun k hk => hB0.block k (hok k hk)) _ _ hV) hfit (hE.below hB0 hE.size)
  have hdl := cell_lt hD
  obtain ⟨R, hR⟩ : ∃ R, Js.print v = R := ⟨_, rfl⟩
  rw [hR]
  unfold Js.print at hR
  cases hm : may 8 v with
  | false =>
    rw [hm] at hM hR
    subst hcs
    have HM := Lib.hid hM
    have HB := Lib.hid hB0
    have HF : Hid (R = ([], 1)) := Lib.hid hR.symm
    have HFA : Hid (∀ o, Fr w.heap.size w (w.alloc o)) := Lib.hid (fun o => (Fr.refl _ _).alloc (Nat.le_refl _) o)
    clear hM hB0 hR hm hV hfit hE hD hok hlen
    go_enter Tryd.func8, Tryd.ntmps8
    go_wp2_with fail
    refine HM.out.mono ?_
    rintro e w1 ⟨rfl, hb1⟩
    have HF1 : Hid (Fr w.heap.size w w1) := Lib.hid ((HFA.out _).trans ⟨hb1.mono (by simp), fun k o ho _ _ => (hb1.block k (Array.getElem?_eq_some_iff.1 ho).1).trans ho⟩)
    clear hb1
    go_wp2
    go_ret2
    refine ⟨.slice none 0 0, by rw [HF.out]; rfl, ?_, HF1.out⟩
    rw [HF.out]
    exact own_nil _ _ _
  | true =>
    rw [hm] at hM hR
    have hP := fun W (hb : Below w.heap.size w W) => put_any v cs W ok w.heap.size 0 (.slice none 0 0) [] 8 hok (VAt.same (fun k hk => hb.block k (hok k hk)) _ _ hV) hfit hm (hE.below hb hE.size) (hD.below hb hdl) hE.size hdl hb.size (own_nil _ _ _) (by omega)
    subst hcs
    have HM := Lib.hid hM
    have HB := Lib.hid hB0
    have HP := Lib.hid hP
    have HF : Hid (R = (put v, 0)) := Lib.hid hR.symm
    have HFA : Hid (∀ o, Fr w.heap.size w (w.alloc o)) := Lib.hid (fun o => (Fr.refl _ _).alloc (Nat.le_refl _) o)
    have HBX : Hid (∀ W, Below (w.alloc (Obj.cells #[Value.int IntKind.u8 v.kind, Value.int IntKind.i64 v.num, Value.string { data := v.text.toArray }, Value.slice p v.kids.length c, Value.slice q v.names.length d] 27)).heap.size (w.alloc (Obj.cells #[Value.int IntKind.u8 v.kind, Value.int IntKind.i64 v.num, Value.string { data := v.text.toArray }, Value.slice p v.kids.length c, Value.slice q v.names.length d] 27)) W →
        Five W w.heap.size (.int .u8 v.kind) (.int .i64 v.num) (.string ⟨v.text.toArray⟩) (.slice p v.kids.length c) (.slice q v.names.length d)) := Lib.hid (fun W hb => (hb.block _ (by simp)).trans (heap_alloc_new w _))
    clear hM hB0 hR hP hm hV hfit hE hD hok hlen
    go_enter Tryd.func8, Tryd.ntmps8
    go_wp2_with fail
    refine HM.out.mono ?_
    rintro e w1 ⟨rfl, hb1⟩
    have HF1 : Hid (Fr w.heap.size w w1) := Lib.hid ((HFA.out _).trans ⟨hb1.mono (by simp), fun k o ho _ _ => (hb1.block k (Array.getElem?_eq_some_iff.1 ho).1).trans ho⟩)
    obtain ⟨a0, a1, a2, a3, a4⟩ := (HBX.out _ hb1).cells
    clear hb1
    go_wp2_with fail
    refine (HP.out _ HF1.out.below).mono ?_
    rintro e w2 ⟨v2, rfl, ho2, hf2⟩
    have HO2 := Lib.hid ho2
    have HF2 := Lib.hid (HF1.out.trans hf2)
    clear ho2 hf2 a0 a1 a2 a3 a4
    go_wp2
    go_ret2
    refine ⟨v2, by rw [HF.out]; rfl, ?_, HF2.out⟩
    rw [HF.out]
    have := HO2.out
    rw [Nat.zero_add, List.nil_append] at this
    exact this
end Go.Proofs.YtcmlppknfbndaaaDoor
