/-
  The anchor of layer 6: works. Conditions: each contract's own.
-/
import Derived.Test.YtcmlppknfbndaaaDoorHelp
import Derived.Lib.SlBytesConst
namespace Go.Proofs.YtcmlppknfbndaaaDoor
open Go.RowKit Js

/-- The anchor's value. -/
def wv : V := .mk 4 0 [] [.mk 2 1 [] [] [], .mk 3 0 [97, 10] [] [], nul] []
def wo : V := .mk 5 0 [] [.mk 2 0 [] [] []] [[97]]
theorem wv_print : Js.print wv = ([91, 49, 44, 34, 97, 92, 110, 34, 44, 110, 117, 108, 108, 93], 0) := by kernel_rfl
theorem wv_may : may 8 wv = true := by kernel_rfl
theorem wo_parse : parse [32, 123, 32, 34, 97, 34, 32, 58, 32, 45, 48, 32, 125, 32] = (wo, 0) := by kernel_rfl
theorem w5_parse : parse [91, 49, 44, 93] = (nul, 5) := by kernel_rfl
theorem w6_parse : parse [91, 91, 91, 91, 91, 91, 91, 91, 91] = (nul, 6) := by kernel_rfl
theorem wo_fld : fld wo [97] = some (.mk 2 0 [] [] []) := by kernel_rfl
theorem wv_same : same wv wv = true := by kernel_rfl
theorem wo_same : same wo wv = false := by kernel_rfl
theorem wv_fit : FitV wv := by
  refine ⟨by decide, by decide, by decide, by simp, ?_⟩
  exact ⟨⟨by decide, by decide, by decide, by simp, trivial⟩, ⟨by decide, by decide, by decide, by simp, trivial⟩, ⟨by decide, by decide, by decide, by simp, trivial⟩, trivial⟩

/-- A block's cells, read as cells that stand one behind the other. -/
theorem cells_of_block {w : World} {g : Nat} {arr : Array Value} {t : TypeId} {fz : Nat × Nat} (h : w.heap[g]? = some (.cells arr t fz)) : CellsAt w g 0 arr.toList := fun j u hj => by
  rw [Nat.zero_add]
  simp only [World.cell?, h]
  simpa using hj
/-- A row of bytes that the call has just laid. -/
theorem slice_of_new (w : World) (l : List UInt8) (arr : Array Value) (t : TypeId) (fz : Nat × Nat) (ha : arr.toList = l.map fun c => Value.int .u8 (c.toNat : Int)) (hl : l.length ≤ 9223372036854775807) : Slice (w.alloc (.cells arr t fz)) w.heap.size (.slice (some ⟨w.heap.size, 0, none⟩) l.length l.length) l := by
  refine ⟨_, _, rfl, Nat.le_refl _, hl, fun _ => ⟨0, rfl, fun i hi => ?_⟩⟩
  have := cells_of_block (heap_alloc_new w (.cells arr t fz)) i (.int .u8 (l.getD i 0).toNat) (by
    rw [ha, List.getElem?_map, List.getElem?_eq_getElem hi]
    simp [List.getD, hi])
  exact this

def wcells : Array Value := #[.int .u8 2, .int .i64 1, .string ⟨#[]⟩, .slice none 0 0, .slice none 0 0, .int .u8 3, .int .i64 0, .string ⟨#[97, 10]⟩, .slice none 0 0, .slice none 0 0, .int .u8 0, .int .i64 0, .string ⟨#[]⟩, .slice none 0 0, .slice none 0 0]
theorem wv_at {w : World} {N : Nat} {fz : Nat × Nat} (h : w.heap[N]? = some (.cells #[.int .u8 2, .int .i64 1, .string ⟨#[]⟩, .slice none 0 0, .slice none 0 0, .int .u8 3, .int .i64 0, .string ⟨#[97, 10]⟩, .slice none 0 0, .slice none 0 0, .int .u8 0, .int .i64 0, .string ⟨#[]⟩, .slice none 0 0, .slice none 0 0] 27 fz)) :
    VAt w (fun k => k = N) wv [.int .u8 4, .int .i64 0, .string ⟨#[]⟩, .slice (some ⟨N, 0, none⟩) 3 3, .slice none 0 0] := by
  refine ⟨.slice (some ⟨N, 0, none⟩) 3 3, .slice none 0 0, [[.int .u8 2, .int .i64 1, .string ⟨#[]⟩, .slice none 0 0, .slice none 0 0], [.int .u8 3, .int .i64 0, .string ⟨#[97, 10]⟩, .slice none 0 0, .slice none 0 0], [.int .u8 0, .int .i64 0, .string ⟨#[]⟩, .slice none 0 0, .slice none 0 0]], rfl, ?_, ⟨_, _, rfl, by decide, by decide, fun _ => ⟨N, 0, rfl, rfl, cells_of_block h⟩⟩, RowAt.nil _ _⟩
  exact ⟨_, _, rfl, at_leaf _ _ _ _ _, _, _, rfl, at_leaf _ _ _ _ _, _, _, rfl, at_leaf _ _ _ _ _, rfl⟩

theorem slice_of_own {w : World} {B n : Nat} {v : Value} {l : List UInt8} (h : w.ownsRow B 5 1 v n (Lib.byteCells l)) : ∃ g, Slice w g v l ∧ (l ≠ [] → B ≤ g ∧ g < w.heap.size) := by
  have hc := @World.ownsRow.cells w B 5 1 v n _ h
  have hn : l.length = n := by have := h.1; simpa [Lib.byteCells] using this
  rcases h.2 with ⟨rfl, hx⟩ | ⟨g, cap, cur, rfl, hb, hg, hnc, hcm, hcs, htake⟩
  · have : l = [] := List.eq_nil_of_length_eq_zero (hn.trans hx)
    subst this
    exact ⟨0, ⟨none, 0, rfl, Nat.le_refl _, by omega, fun hne => absurd rfl hne⟩, fun hne => absurd rfl hne⟩
  · refine ⟨g, ⟨_, _, by rw [hn], by rw [hn]; exact hnc, by unfold maxLen at hcm; omega, fun hne => ⟨0, rfl, fun i hi => ?_⟩⟩, fun _ => ⟨hb, (Array.getElem?_eq_some_iff.1 hg).1⟩⟩
    have := hc (g := g) rfl i (.int .u8 (l.getD i 0).toNat) (by
      simp only [Lib.byteCells]
      rw [List.getElem?_map, List.getElem?_eq_getElem hi]
      simp [List.getD, hi])
    rw [← this, Nat.zero_add]
    unfold Addr.add
    split
    · rename_i h0; subst h0; rfl
    · simp

/-- The mark of a constant's bytes, behind one block more. -/
theorem conv_const1 (w : World) (o : Obj) (C : Array Value) (n c : Nat) : (convert 22 22 (.slice (some ⟨w.heap.size + 1, 0, none⟩) n c)).run Tryd.prog ((w.alloc o).alloc (.cells C 5)) = .ok (.slice (some ⟨w.heap.size + 1, 0, none⟩) n c) ((w.alloc o).alloc (.cells C 5 (C.size, C.size + 1))) := by
  have := Lib.run_convert_bytes_const (P := Tryd.prog) (w.alloc o) 22 5 C n c Tryd.underlying22 Tryd.underlying5
  rw [show (w.alloc o).heap.size = w.heap.size + 1 by simp] at this
  exact this

/-- The world behind the first statement. -/
structure W1 (w w1 : World) : Prop where
  below : Below w.heap.size w w1
  size : w1.heap.size = w.heap.size + 2
  kids : VAt w1 (fun k => k = w.heap.size) wv [.int .u8 4, .int .i64 0, .string ⟨#[]⟩, .slice (some ⟨w.heap.size, 0, none⟩) 3 3, .slice none 0 0]
  box : Five w1 (w.heap.size + 1) (.int .u8 4) (.int .i64 0) (.string ⟨#[]⟩) (.slice (some ⟨w.heap.size, 0, none⟩) 3 3) (.slice none 0 0)
theorem W1.start (w : World) : W1 w ((w.alloc (.cells #[.int .u8 2, .int .i64 1, .string ⟨#[]⟩, .slice none 0 0, .slice none 0 0, .int .u8 3, .int .i64 0, .string ⟨#[97, 10]⟩, .slice none 0 0, .slice none 0 0, .int .u8 0, .int .i64 0, .string ⟨#[]⟩, .slice none 0 0, .slice none 0 0] 27)).alloc (.cells #[.int .u8 4, .int .i64 0, .string ⟨#[]⟩, .slice (some ⟨w.heap.size, 0, none⟩) 3 3, .slice none 0 0] 27)) := by
  refine ⟨((Below.refl _ _).alloc (Nat.le_refl _) _).alloc (by simp) _, by simp, wv_at (fz := (0, 0)) ?_, ?_⟩
  · rw [Below.heap_alloc _ _ _ (by simp)]
    exact heap_alloc_new w _
  · have := heap_alloc_new (w.alloc (.cells #[.int .u8 2, .int .i64 1, .string ⟨#[]⟩, .slice none 0 0, .slice none 0 0, .int .u8 3, .int .i64 0, .string ⟨#[97, 10]⟩, .slice none 0 0, .slice none 0 0, .int .u8 0, .int .i64 0, .string ⟨#[]⟩, .slice none 0 0, .slice none 0 0] 27)) (.cells #[.int .u8 4, .int .i64 0, .string ⟨#[]⟩, .slice (some ⟨w.heap.size, 0, none⟩) 3 3, .slice none 0 0] 27)
    rw [show (w.alloc (.cells #[.int .u8 2, .int .i64 1, .string ⟨#[]⟩, .slice none 0 0, .slice none 0 0, .int .u8 3, .int .i64 0, .string ⟨#[97, 10]⟩, .slice none 0 0, .slice none 0 0, .int .u8 0, .int .i64 0, .string ⟨#[]⟩, .slice none 0 0, .slice none 0 0] 27)).heap.size = w.heap.size + 1 by simp] at this
    exact this
theorem W1.at_ {w w1 W : World} (h : W1 w w1) (hb : Below w1.heap.size w1 W) : VAt W (fun k => k = w.heap.size) wv [.int .u8 4, .int .i64 0, .string ⟨#[]⟩, .slice (some ⟨w.heap.size, 0, none⟩) 3 3, .slice none 0 0] :=
  VAt.same (fun k hk => hb.block k (by have := h.size; omega)) _ _ h.kids
theorem W1.cells {w w1 W : World} (h : W1 w w1) (hb : Below w1.heap.size w1 W) : Five W (w.heap.size + 1) (.int .u8 4) (.int .i64 0) (.string ⟨#[]⟩) (.slice (some ⟨w.heap.size, 0, none⟩) 3 3) (.slice none 0 0) :=
  h.box.same (hb.block _ (by have := h.size; omega))

set_option maxHeartbeats 4000000 in
set_option maxRecDepth 100000 in
theorem works_any (w : World) (hE : Env w) (hD : Deb w) :
    Calls Tryd.prog 6 #[] w fun e w' => e = .returned (.bool true) ∧ Below w.heap.size w w' := by
  have HE := Lib.hid hE
  have HD := Lib.hid hD
  clear hE hD
  have hcv1 := conv_const1
  have hcv := fun (w : World) (C : Array Value) (n c : Nat) => Lib.run_convert_bytes_const (P := Tryd.prog) w 22 5 C n c Tryd.underlying22 Tryd.underlying5
  go_enter Tryd.func6, Tryd.ntmps6
  go_wp2_with fail
  have H1 := Lib.hid (W1.start w)
  generalize ((w.alloc (Obj.cells #[.int .u8 2, .int .i64 1, .string ⟨#[]⟩, .slice none 0 0, .slice none 0 0, .int .u8 3, .int .i64 0, .string ⟨#[97, 10]⟩, .slice none 0 0, .slice none 0 0, .int .u8 0, .int .i64 0, .string ⟨#[]⟩, .slice none 0 0, .slice none 0 0] 27)).alloc (Obj.cells #[.int .u8 4, .int .i64 0, .string ⟨#[]⟩, .slice (some ⟨w.heap.size, 0, none⟩) 3 3, .slice none 0 0] 27)) = w1 at *
  have hp := print_any wv _ w1 (fun k => k = w.heap.size) (fun k hk => by have := H1.out.size; omega) H1.out.kids wv_fit (HE.out.below H1.out.below HE.out.size) (HD.out.below H1.out.below (cell_lt HD.out)) (by decide +kernel)
  rw [wv_print] at hp
  refine hp.mono ?_
  clear hp
  rintro e w2 ⟨v2, rfl, ho2, hf2⟩
  have HO2 := Lib.hid ho2
  have HB2 := Lib.hid hf2.below
  obtain ⟨a0, a1, a2, a3, a4⟩ := (H1.out.cells hf2.below).cells
  clear ho2 hf2
  go_wp2_with fail
  clear a0 a1 a2 a3 a4
  have HE2 := Lib.hid ((HE.out.below H1.out.below HE.out.size).below HB2.out (Nat.le_trans HE.out.size H1.out.below.size))
  have hp := parse_any w2.heap.size [32, 123, 32, 34, 97, 34, 32, 58, 32, 45, 48, 32, 125, 32] (.slice (some ⟨w2.heap.size, 0, none⟩) 14 14) (w2.alloc (.cells #[.int .u8 32, .int .u8 123, .int .u8 32, .int .u8 34, .int .u8 97, .int .u8 34, .int .u8 32, .int .u8 58, .int .u8 32, .int .u8 45, .int .u8 48, .int .u8 32, .int .u8 125, .int .u8 32] 5 (14, 15))) (slice_of_new w2 [32, 123, 32, 34, 97, 34, 32, 58, 32, 45, 48, 32, 125, 32] #[.int .u8 32, .int .u8 123, .int .u8 32, .int .u8 34, .int .u8 97, .int .u8 34, .int .u8 32, .int .u8 58, .int .u8 32, .int .u8 45, .int .u8 48, .int .u8 32, .int .u8 125, .int .u8 32] 5 (14, 15) rfl (by decide)) (by simp) (HE2.out.below ((Below.refl _ _).alloc (Nat.le_refl _) _) HE2.out.size)
  rw [wo_parse] at hp
  refine hp.mono ?_
  clear hp
  rintro e w3 ⟨cs, rfl, hV, hb⟩
  obtain ⟨p1, c1, p2, c2, hcs, _, _, _, _⟩ := hV.shape
  replace hcs : cs = [.int .u8 5, .int .i64 0, .string ⟨#[]⟩, .slice p1 1 c1, .slice p2 1 c2] := hcs
  subst hcs
  have HB3 := Lib.hid (((Below.refl w2.heap.size w2).alloc (Nat.le_refl _) _).trans (hb.mono (by simp)))
  have HV3 := Lib.hid (VAt.mono (ok' := fun k => k < w3.heap.size) (fun k hk => hk.2) _ _ hV)
  clear hV hb
  go_wp2_with fail
  have HU := Lib.hid (heap_alloc_new w3 (.cells #[.int .u8 5, .int .i64 0, .string ⟨#[]⟩, .slice p1 1 c1, .slice p2 1 c2] 27))
  have HVU := Lib.hid (VAt.same (w' := w3.alloc (.cells #[.int .u8 5, .int .i64 0, .string ⟨#[]⟩, .slice p1 1 c1, .slice p2 1 c2] 27)) (fun k hk => Below.heap_alloc _ _ _ hk) _ _ HV3.out)
  have HB3' := Lib.hid (HB3.out.alloc HB3.out.size (.cells #[.int .u8 5, .int .i64 0, .string ⟨#[]⟩, .slice p1 1 c1, .slice p2 1 c2] 27))
  have HS3 : Hid ((w3.alloc (.cells #[.int .u8 5, .int .i64 0, .string ⟨#[]⟩, .slice p1 1 c1, .slice p2 1 c2] 27)).heap.size = w3.heap.size + 1) := Lib.hid (by simp)
  generalize (w3.alloc (.cells #[.int .u8 5, .int .i64 0, .string ⟨#[]⟩, .slice p1 1 c1, .slice p2 1 c2] 27)) = u3 at *
  have hp := field_any wo [97] [.int .u8 5, .int .i64 0, .string ⟨#[]⟩, .slice p1 1 c1, .slice p2 1 c2] u3 (fun k => k < w3.heap.size) (fun k hk => by have := HS3.out; omega) HVU.out
  rw [wo_fld] at hp
  refine hp.mono ?_
  clear hp
  rintro e w4 ⟨ds, rfl, hV, hb⟩
  obtain ⟨p3, c3, p4, c4, hds, _, _, _, _⟩ := hV.shape
  replace hds : ds = [.int .u8 2, .int .i64 0, .string ⟨#[]⟩, .slice p3 0 c3, .slice p4 0 c4] := hds
  subst hds
  have HB4 := Lib.hid hb
  clear hV hb
  have HEu3 := Lib.hid (HE2.out.below HB3'.out HE2.out.size)
  have HEw4 := Lib.hid (HEu3.out.below HB4.out HEu3.out.size)
  go_wp2_with fail
  have HBu4 := Lib.hid ((Below.refl w4.heap.size w4).alloc (Nat.le_refl _) (.cells #[.int .u8 2, .int .i64 0, .string ⟨#[]⟩, .slice p3 0 c3, .slice p4 0 c4] 27))
  have HNu4 := Lib.hid (heap_alloc_new w4 (.cells #[.int .u8 2, .int .i64 0, .string ⟨#[]⟩, .slice p3 0 c3, .slice p4 0 c4] 27))
  have HSu4 : Hid ((w4.alloc (.cells #[.int .u8 2, .int .i64 0, .string ⟨#[]⟩, .slice p3 0 c3, .slice p4 0 c4] 27)).heap.size = w4.heap.size + 1) := Lib.hid (by simp)
  have hsl := slice_of_new (w4.alloc (.cells #[.int .u8 2, .int .i64 0, .string ⟨#[]⟩, .slice p3 0 c3, .slice p4 0 c4] 27)) [91, 49, 44, 93] #[.int .u8 91, .int .u8 49, .int .u8 44, .int .u8 93] 5 (4, 5) rfl (by decide)
  rw [HSu4.out] at hsl
  generalize (w4.alloc (.cells #[.int .u8 2, .int .i64 0, .string ⟨#[]⟩, .slice p3 0 c3, .slice p4 0 c4] 27)) = u4 at *
  have hp := parse_any (w4.heap.size + 1) [91, 49, 44, 93] (.slice (some ⟨w4.heap.size + 1, 0, none⟩) 4 4) (u4.alloc (.cells #[.int .u8 91, .int .u8 49, .int .u8 44, .int .u8 93] 5 (4, 5))) hsl (by have := HSu4.out; simp; omega) (((HEw4.out.below HBu4.out HEw4.out.size).below ((Below.refl _ _).alloc (Nat.le_refl _) _) (by have := (HEw4.out.below HBu4.out HEw4.out.size).size; have := HSu4.out; omega)))
  rw [w5_parse] at hp
  refine hp.mono ?_
  clear hp hsl
  rintro e w5 ⟨cs, rfl, hV, hb⟩
  obtain ⟨p5, cp5, p6, cp6, hcs, _, _, _, _⟩ := hV.shape
  replace hcs : cs = [.int .u8 0, .int .i64 0, .string ⟨#[]⟩, .slice p5 0 cp5, .slice p6 0 cp6] := hcs
  subst hcs
  have HBw5 := Lib.hid (((Below.refl u4.heap.size u4).alloc (Nat.le_refl _) _).trans (hb.mono (by simp)))
  clear hV hb
  go_wp2_with fail
  have HEu4 := Lib.hid (HEw4.out.below HBu4.out HEw4.out.size)
  have HEw5 := Lib.hid (HEu4.out.below HBw5.out HEu4.out.size)
  have HBu5 := Lib.hid ((Below.refl w5.heap.size w5).alloc (Nat.le_refl _) (.cells #[.int .u8 0, .int .i64 0, .string ⟨#[]⟩, .slice p5 0 cp5, .slice p6 0 cp6] 27))
  have HNu5 := Lib.hid (heap_alloc_new w5 (.cells #[.int .u8 0, .int .i64 0, .string ⟨#[]⟩, .slice p5 0 cp5, .slice p6 0 cp6] 27))
  have HSu5 : Hid ((w5.alloc (.cells #[.int .u8 0, .int .i64 0, .string ⟨#[]⟩, .slice p5 0 cp5, .slice p6 0 cp6] 27)).heap.size = w5.heap.size + 1) := Lib.hid (by simp)
  have hsl := slice_of_new (w5.alloc (.cells #[.int .u8 0, .int .i64 0, .string ⟨#[]⟩, .slice p5 0 cp5, .slice p6 0 cp6] 27)) [91, 91, 91, 91, 91, 91, 91, 91, 91] #[.int .u8 91, .int .u8 91, .int .u8 91, .int .u8 91, .int .u8 91, .int .u8 91, .int .u8 91, .int .u8 91, .int .u8 91] 5 (9, 10) rfl (by decide)
  rw [HSu5.out] at hsl
  generalize (w5.alloc (.cells #[.int .u8 0, .int .i64 0, .string ⟨#[]⟩, .slice p5 0 cp5, .slice p6 0 cp6] 27)) = u5 at *
  have hp := parse_any (w5.heap.size + 1) [91, 91, 91, 91, 91, 91, 91, 91, 91] (.slice (some ⟨w5.heap.size + 1, 0, none⟩) 9 9) (u5.alloc (.cells #[.int .u8 91, .int .u8 91, .int .u8 91, .int .u8 91, .int .u8 91, .int .u8 91, .int .u8 91, .int .u8 91, .int .u8 91] 5 (9, 10))) hsl (by have := HSu5.out; simp; omega) (((HEw5.out.below HBu5.out HEw5.out.size).below ((Below.refl _ _).alloc (Nat.le_refl _) _) (by have := (HEw5.out.below HBu5.out HEw5.out.size).size; have := HSu5.out; omega)))
  rw [w6_parse] at hp
  refine hp.mono ?_
  clear hp hsl
  rintro e w6 ⟨cs, rfl, hV, hb⟩
  obtain ⟨p7, cp7, p8, cp8, hcs, _, _, _, _⟩ := hV.shape
  replace hcs : cs = [.int .u8 0, .int .i64 0, .string ⟨#[]⟩, .slice p7 0 cp7, .slice p8 0 cp8] := hcs
  subst hcs
  have HBw6 := Lib.hid (((Below.refl u5.heap.size u5).alloc (Nat.le_refl _) _).trans (hb.mono (by simp)))
  clear hV hb
  have HEu5 := Lib.hid (HEw5.out.below HBu5.out HEw5.out.size)
  have HEw6 := Lib.hid (HEu5.out.below HBw6.out HEu5.out.size)
  have B56 := HBu5.out.trans (HBw6.out.mono HBu5.out.size)
  have B46 := HBu4.out.trans ((HBw5.out.trans (B56.mono HBw5.out.size)).mono HBu4.out.size)
  have Bu46 := HBw5.out.trans (B56.mono HBw5.out.size)
  have Bu36 := HB4.out.trans (B46.mono HB4.out.size)
  have B26 := HB3'.out.trans (Bu36.mono HB3'.out.size)
  have B16 := HB2.out.trans (B26.mono HB2.out.size)
  have HL : Hid (∀ o W, Below (w6.alloc o).heap.size (w6.alloc o) W → Below w6.heap.size w6 W) := Lib.hid (fun o W h => ((Below.refl _ _).alloc (Nat.le_refl _) o).trans (h.mono (by simp)))
  have HVB : Hid (∀ W, Below w6.heap.size w6 W → Five W (w.heap.size + 1) (.int .u8 4) (.int .i64 0) (.string ⟨#[]⟩) (.slice (some ⟨w.heap.size, 0, none⟩) 3 3) (.slice none 0 0)) := Lib.hid (fun W h => H1.out.cells (B16.trans (h.mono B16.size)))
  have HVA : Hid (∀ W, Below w6.heap.size w6 W → VAt W (fun k => k < w6.heap.size) wv [.int .u8 4, .int .i64 0, .string ⟨#[]⟩, .slice (some ⟨w.heap.size, 0, none⟩) 3 3, .slice none 0 0]) := Lib.hid (fun W h => VAt.mono (fun k hk => by have := H1.out.size; have := B16.size; omega) _ _ (H1.out.at_ (B16.trans (h.mono B16.size))))
  have HUB : Hid (∀ W, Below w6.heap.size w6 W → Five W w3.heap.size (.int .u8 5) (.int .i64 0) (.string ⟨#[]⟩) (.slice p1 1 c1) (.slice p2 1 c2)) := Lib.hid (fun W h => Five.same (w := u3) HU.out ((Bu36.trans (h.mono Bu36.size)).block _ (by have := HS3.out; omega)))
  have HUA : Hid (∀ W, Below w6.heap.size w6 W → VAt W (fun k => k < w6.heap.size) wo [.int .u8 5, .int .i64 0, .string ⟨#[]⟩, .slice p1 1 c1, .slice p2 1 c2]) := Lib.hid (fun W h => VAt.mono (fun k hk => by have := HS3.out; have := Bu36.size; omega) _ _ (VAt.same (fun k hk => (Bu36.trans (h.mono Bu36.size)).block k (by have := HS3.out; omega)) _ _ HVU.out))
  have HXB : Hid (∀ W, Below w6.heap.size w6 W → Five W w4.heap.size (.int .u8 2) (.int .i64 0) (.string ⟨#[]⟩) (.slice p3 0 c3) (.slice p4 0 c4)) := Lib.hid (fun W h => Five.same (w := u4) HNu4.out ((Bu46.trans (h.mono Bu46.size)).block _ (by have := HSu4.out; omega)))
  obtain ⟨g2, hsl2, hg2⟩ := slice_of_own HO2.out
  have hstr : ∀ o, (convert 22 9 v2).run Tryd.prog (w6.alloc o) = .ok (.string ⟨#[91, 49, 44, 34, 97, 92, 110, 34, 44, 110, 117, 108, 108, 93]⟩) (w6.alloc o) := fun o =>
    run_string hsl2 (w6.alloc o) (fun hne => (Below.heap_alloc _ _ _ (by have := (hg2 hne).2; have := B26.size; omega)).trans (B26.block _ (hg2 hne).2))
  have ha : ∀ o, Below w6.heap.size w6 (w6.alloc o) := fun o => (Below.refl _ _).alloc (Nat.le_refl _) o
  have HA := Lib.hid ha
  have a0 := fun o => (HVB.out _ (ha o)).cells.1
  have a1 := fun o => (HVB.out _ (ha o)).cells.2.1
  have a2 := fun o => (HVB.out _ (ha o)).cells.2.2.1
  have a3 := fun o => (HVB.out _ (ha o)).cells.2.2.2.1
  have a4 := fun o => (HVB.out _ (ha o)).cells.2.2.2.2
  have x0 := fun o => (HXB.out _ (ha o)).cells.1
  have HBF := Lib.hid (H1.out.below.trans (B16.mono H1.out.below.size))
  clear ha B56 B46 Bu46 Bu36 B26 B16 hsl2 hg2
  have HMY := Lib.hid (fun o => May_any wv [.int .u8 4, .int .i64 0, .string ⟨#[]⟩, .slice (some ⟨w.heap.size, 0, none⟩) 3 3, .slice none 0 0] (w6.alloc o) (fun k => k < w6.heap.size) (fun k hk => by simp; omega) (HVA.out _ (HA.out o)) wv_fit (HEw6.out.below (HA.out o) HEw6.out.size))
  rw [wv_may] at HMY
  go_wp2_with fail
  refine (HMY.out _).mono ?_
  rintro e w7 ⟨rfl, hb⟩
  have HB7 := Lib.hid (HL.out _ _ hb)
  clear hb a0 a1 a2 a3 a4 x0 hstr HMY
  obtain ⟨a0, a1, a2, a3, a4⟩ := (HVB.out _ HB7.out).cells
  have HSM := Lib.hid (same_any wv wv [.int .u8 4, .int .i64 0, .string ⟨#[]⟩, .slice (some ⟨w.heap.size, 0, none⟩) 3 3, .slice none 0 0] [.int .u8 4, .int .i64 0, .string ⟨#[]⟩, .slice (some ⟨w.heap.size, 0, none⟩) 3 3, .slice none 0 0] w7 (fun k => k < w6.heap.size) (fun k hk => Nat.lt_of_lt_of_le hk HB7.out.size) (HVA.out _ HB7.out) (HVA.out _ HB7.out))
  rw [wv_same] at HSM
  go_wp2_with fail
  refine HSM.out.mono ?_
  rintro e w8 ⟨rfl, hb⟩
  have HB8 := Lib.hid (HB7.out.trans (hb.mono HB7.out.size))
  clear hb a0 a1 a2 a3 a4 HSM
  obtain ⟨a0, a1, a2, a3, a4⟩ := (HVB.out _ HB8.out).cells
  obtain ⟨y0, y1, y2, y3, y4⟩ := (HUB.out _ HB8.out).cells
  have HSM := Lib.hid (same_any wo wv [.int .u8 5, .int .i64 0, .string ⟨#[]⟩, .slice p1 1 c1, .slice p2 1 c2] [.int .u8 4, .int .i64 0, .string ⟨#[]⟩, .slice (some ⟨w.heap.size, 0, none⟩) 3 3, .slice none 0 0] w8 (fun k => k < w6.heap.size) (fun k hk => Nat.lt_of_lt_of_le hk HB8.out.size) (HUA.out _ HB8.out) (HVA.out _ HB8.out))
  rw [wo_same] at HSM
  go_wp2_with fail
  refine HSM.out.mono ?_
  rintro e w9 ⟨rfl, hb⟩
  have HB9 := Lib.hid (HB8.out.trans (hb.mono HB8.out.size))
  clear hb a0 a1 a2 a3 a4 HSM y0 y1 y2 y3 y4
  go_wp2
  go_ret
  exact ⟨rfl, HBF.out.trans (HB9.out.mono HBF.out.size)⟩
end Go.Proofs.YtcmlppknfbndaaaDoor
