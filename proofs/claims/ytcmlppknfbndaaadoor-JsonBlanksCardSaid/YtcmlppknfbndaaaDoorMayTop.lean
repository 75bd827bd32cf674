/-
  json's May. Conditions: each contract's own.
-/
import Derived.Test.YtcmlppknfbndaaaDoorQuote
namespace Go.Proofs.YtcmlppknfbndaaaDoor
open Go.RowKit Js

set_option maxRecDepth 100000 in
theorem May_any (v : V) (cs : List Value) (w : World) (ok : Nat → Prop) (hok : ∀ k, ok k → k < w.heap.size) (hV : VAt w ok v cs) (hfit : FitV v) (hE : Env w) :
    Calls Tryd.prog 9 #[.agg cs.toArray] w fun e w' => e = .returned (.bool (may 8 v)) ∧ Below w.heap.size w w' := by
  obtain ⟨p, c, q, d, hcs, _, _, _, _⟩ := hV.shape
  simp only [strv] at hcs
  have hB0 : Below w.heap.size w (w.alloc (Obj.cells cs.toArray 27)) := (Below.refl _ _).alloc (Nat.le_refl _) _
  have hcall := may_any v cs (w.alloc (Obj.cells cs.toArray 27)) ok 8 (by omega) (by omega) (fun k hk => by simp; have := hok k hk; omega) (VAt.same (fun k hk => Below.heap_alloc _ _ _ (hok k hk)) _ _ hV) hfit (hE.below hB0 hE.size)
  subst hcs
  have HC := Lib.hid hcall
  have HB := Lib.hid hB0
  obtain ⟨b, hb⟩ : ∃ b, may 8 v = b := ⟨_, rfl⟩
  rw [hb] at HC ⊢
  clear hcall hB0 hV hfit hE hok hb
  go_enter Tryd.func9, Tryd.ntmps9
  go_wp2_with fail
  refine HC.out.mono ?_
  rintro e w1 ⟨rfl, hb1⟩
  have HB1 := Lib.hid (HB.out.trans (hb1.mono (by simp)))
  clear hb1
  go_wp2
  go_ret
  exact ⟨rfl, HB1.out⟩
end Go.Proofs.YtcmlppknfbndaaaDoor
