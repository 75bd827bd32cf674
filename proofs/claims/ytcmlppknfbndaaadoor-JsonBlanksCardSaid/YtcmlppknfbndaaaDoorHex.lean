/-
  strconv.AppendUint to base 16, of a digit. Conditions: each contract's own.
-/
import Derived.Test.YtcmlppknfbndaaaDoorMay
namespace Go.Proofs.YtcmlppknfbndaaaDoor
open Go.RowKit Js

/-- The one place of the table that counts trailing zeros of 16. -/
def Deb (w : World) : Prop := w.cell? ⟨7, 15, none⟩ = some (.int .u8 4)

theorem trailing (w : World) (h : Deb w) :
    Calls Tryd.prog 86 #[.int .u64 16] w fun e w' => e = .returned (.int .i64 4) ∧ w = w' := by
  unfold Deb at h
  have h1 : IntKind.u64.wrap (-16) = 18446744073709551600 := by decide
  have h2 : bits BinOp.and IntKind.u64 16 18446744073709551600 = 16 := by decide
  have h3 : IntKind.u64.wrap (16 * 285870213051353865) = 4573923408821661840 := by decide
  go_enter Tryd.func86, Tryd.ntmps86
  go_wp2
  go_ret
  exact ⟨rfl, rfl⟩

theorem pow16 (w : World) : Calls Tryd.prog 85 #[.int .i64 16] w fun e w' => e = .returned (.bool true) ∧ w = w' := by
  have h1 : IntKind.i64.wrap (16 - 1) = 15 := by decide
  have h2 : bits BinOp.and IntKind.i64 16 15 = 0 := by decide
  go_enter Tryd.func85, Tryd.ntmps85
  go_wp2
  go_ret
  exact ⟨rfl, rfl⟩

theorem below_of_grown {B : Nat} {w w2 w' : World} {row : Option Nat} (h : Below B w w2) (hg : w2.grownBy w' row) (hB : B ≤ w2.heap.size) (hr : ∀ k, row = some k → B ≤ k) : Below B w w' :=
  ⟨hg.os.trans h.os, hg.tape.trans h.tape, hg.output.trans h.output, Nat.le_trans h.size hg.size, fun k hk => by
    rw [hg.block k (by omega) (fun e => by have := hr k e.symm; omega)]; exact h.block k hk⟩
theorem grown_trans {w w1 w2 : World} {row : Option Nat} (h : w.grownBy w1 none) (g : w1.grownBy w2 row) : w.grownBy w2 row :=
  ⟨g.os.trans h.os, g.tape.trans h.tape, g.output.trans h.output, Nat.le_trans h.size g.size, fun k hk hne => by
    rw [g.block k (Nat.lt_of_lt_of_le hk h.size) hne]; exact h.block k hk (by simp)⟩
theorem fresh_back {w w1 : World} {v v' : Value} (h : w.heap.size ≤ w1.heap.size) (g : Fresh w1 v v') : Fresh w v v' := by
  rcases g with e | ⟨i, e, hi⟩
  · exact .inl e
  · exact .inr ⟨i, e, Nat.le_trans h hi⟩
theorem one_of (x : Int) : ∀ u ∈ [Value.int .u8 x], u.oneCell' = true := fun u hu => by
  obtain rfl : u = Value.int .u8 x := by simpa using hu
  rfl
def hexd (u : Nat) : Int := if u < 10 then 48 + u else 87 + u
theorem hex_eq (u : Nat) (hu : u < 16) {h : u < (ByteArray.mk #[48, 49, 50, 51, 52, 53, 54, 55, 56, 57, 97, 98, 99, 100, 101, 102, 103, 104, 105, 106, 107, 108, 109, 110, 111, 112, 113, 114, 115, 116, 117, 118, 119, 120, 121, 122]).size} :
    (((ByteArray.mk #[48, 49, 50, 51, 52, 53, 54, 55, 56, 57, 97, 98, 99, 100, 101, 102, 103, 104, 105, 106, 107, 108, 109, 110, 111, 112, 113, 114, 115, 116, 117, 118, 119, 120, 121, 122])[u]'h).toNat : Int) = hexd u := by
  have hu' : u = 0 ∨ u = 1 ∨ u = 2 ∨ u = 3 ∨ u = 4 ∨ u = 5 ∨ u = 6 ∨ u = 7 ∨ u = 8 ∨ u = 9 ∨ u = 10 ∨ u = 11 ∨ u = 12 ∨ u = 13 ∨ u = 14 ∨ u = 15 := by omega
  rcases hu' with rfl | rfl | rfl | rfl | rfl | rfl | rfl | rfl | rfl | rfl | rfl | rfl | rfl | rfl | rfl | rfl <;> rfl
theorem zero65 : Tryd.zeroCells117[64]? = some (.int .u8 0) := by kernel_rfl

set_option maxRecDepth 100000 in
set_option maxHeartbeats 4000000 in
theorem bits_hex (u : Nat) (hu : u < 16) (B n : Nat) (sv : Value) (xs : List Value) (w : World) (hown : w.ownsRow B 5 1 sv n xs) (hBw : B ≤ w.heap.size) (hn : n + 1 ≤ 140737488355328) (h : Deb w) :
    Calls Tryd.prog 75 #[sv, .int .u64 u, .int .i64 16, .bool false, .bool true] w fun e w' => ∃ v' , e = .returned (.tuple #[v', .string ⟨#[]⟩]) ∧ w'.ownsRow B 5 1 v' (n + 1) (xs ++ [.int .u8 (hexd u)]) ∧ w.grownBy w' sv.ownBlock ∧ Fresh w sv v' := by
  have hlt : 7 < w.heap.size := cell_lt h
  have HD : Hid (Deb (w.alloc (Obj.cells Tryd.zeroCells117 117))) := by
    have : Deb (w.alloc (Obj.cells Tryd.zeroCells117 117)) := by
      unfold Deb at h ⊢
      rw [World.cell?_alloc_lt _ _ _ hlt]; exact h
    exact this
  have hnew : (w.alloc (Obj.cells Tryd.zeroCells117 117)).heap[w.heap.size]? = some (.cells Tryd.zeroCells117 117 (0, 0)) := heap_alloc_new w _
  have hc0 : (w.alloc (Obj.cells Tryd.zeroCells117 117)).cell? ⟨w.heap.size, 64, none⟩ = some (.int .u8 0) := by
    simp only [World.cell?, hnew]; exact zero65
  have hf0 : (w.alloc (Obj.cells Tryd.zeroCells117 117)).frozen? ⟨w.heap.size, 64, none⟩ = false := by
    simp only [World.frozen?, hnew]; rfl
  have hB0 : Below w.heap.size w (w.alloc (Obj.cells Tryd.zeroCells117 117)) := (Below.refl _ _).alloc (Nat.le_refl _) _
  have hs0 : (w.alloc (Obj.cells Tryd.zeroCells117 117)).heap.size = w.heap.size + 1 := by simp
  obtain ⟨i0, hi, hz0, hz1, hz2⟩ := info_parts info8
  have HB0 := Lib.hid hB0
  have HS0 := Lib.hid hs0
  have HOWN := Lib.hid hown
  have HBW := Lib.hid hBw
  have HNL : Hid (n + 1 ≤ maxLen ∧ (n + 1) * 1 ≤ 140737488355328) := Lib.hid (by unfold maxLen; omega)
  clear hnew hB0 hs0 hown hBw hn h hlt
  have t16 : decide ((16 : Int) ≤ (u : Int)) = false := by simp only [decide_eq_false_iff_not]; omega
  have t36 : (u : Int) < 36 := by omega
  have n36 : u < 36 := by omega
  go_enter Tryd.func75, Tryd.ntmps75
  go_wp2_with (first | (go_at_call 85; (with_reducible refine (pow16 _).mono ?_); rintro e w' ⟨rfl, rfl⟩) | (go_at_call 86; (with_reducible refine (trailing _ HD.out).mono ?_); rintro e w' ⟨rfl, rfl⟩))
  generalize w.alloc (Obj.cells Tryd.zeroCells117 117) = w0 at *
  go_loopg [1, 13] 1 (fun gg s1 s13 wr => s1 = .int .u64 u ∧ s13 = .int .i64 65 ∧ wr = w0)
  case atStart => exact ⟨rfl, rfl, rfl⟩
  case round =>
    obtain ⟨rfl, rfl, rfl⟩ := hrel
    have hlo : ∀ k, sv.ownBlock = some k → B ≤ k := fun k hk => (HOWN.out.lt k hk).1
    have hup : ∀ k, sv.ownBlock = some k → k < w.heap.size := fun k hk => (HOWN.out.lt k hk).2
    have hbx : ∀ x, Below w.heap.size w (wr.setCell ⟨w.heap.size, 64, none⟩ x) := fun x => HB0.out.setCell (p := ⟨w.heap.size, 64, none⟩) (Nat.le_refl _) x
    have HBX := Lib.hid hbx
    have HOW2 : Hid (∀ x, (wr.setCell ⟨w.heap.size, 64, none⟩ x).ownsRow B 5 1 sv n xs) := Lib.hid (fun x => HOWN.out.kept (below_grown (hbx x)) (by cases sv.ownBlock <;> simp))
    have HNEW : Hid (∀ x, ∀ j u, [Value.int .u8 x][j]? = some u → (wr.setCell ⟨w.heap.size, 64, none⟩ (.int .u8 x)).cell? ((⟨w.heap.size, 64, none⟩ : Addr).add j) = some u) := Lib.hid (fun x j u hu => by
      cases j with
      | zero =>
        obtain rfl : Value.int .u8 x = u := by simpa using hu
        exact World.cell?_setCell_same _ _ _ hc0
      | succ j => simp at hu)
    have HSB : Hid (∀ x, B ≤ (wr.setCell ⟨w.heap.size, 64, none⟩ x).heap.size) := Lib.hid (fun x => by rw [size_setCell1, HS0.out]; have := HBW.out; omega)
    have HLO := Lib.hid hlo
    clear hlo hup hbx
    go_wp2_with (first | (at_builtin; refine wpList_append_fresh _ rfl _ _ 22 rfl B 5 i0 (.int .u8 0) 1 1 Tryd.underlying22 hi hz0 hz1 hz2 rfl (by decide) sv n xs rfl (HOW2.out _) ⟨w.heap.size, 64, none⟩ 1 1 [.int .u8 _] rfl rfl (HNEW.out _) (one_of _) HNL.out.1 HNL.out.2 (HSB.out _) ?_; intro v' w' hv' hg' hf'; have HV' := Lib.hid hv'; have HG' := Lib.hid hg'; have HFR' := Lib.hid hf'; clear hv' hg' hf'))
    go_ret2
    exact ⟨v', rfl, hex_eq u hu ▸ HV'.out, grown_trans (below_grown (HBX.out _)) HG'.out, fresh_back (HBX.out _).size HFR'.out⟩

set_option maxRecDepth 100000 in
theorem append_hex (u : Nat) (hu : u < 16) (B n : Nat) (sv : Value) (xs : List Value) (w : World) (hown : w.ownsRow B 5 1 sv n xs) (hBw : B ≤ w.heap.size) (hn : n + 1 ≤ 140737488355328) (h : Deb w) :
    Calls Tryd.prog 52 #[sv, .int .u64 u, .int .i64 16] w fun e w' => ∃ v' , e = .returned v' ∧ w'.ownsRow B 5 1 v' (n + 1) (xs ++ [.int .u8 (hexd u)]) ∧ w.grownBy w' sv.ownBlock ∧ Fresh w sv v' := by
  have H := Lib.hid (bits_hex u hu B n sv xs w hown hBw hn h)
  clear hown h
  go_enter Tryd.func52, Tryd.ntmps52
  go_wp2_with (first | (go_at_call 64; go_in) | (go_at_call 75; refine H.out.mono ?_; rintro e w' ⟨v', rfl, hv', hb', hf'⟩; have HV' := Lib.hid hv'; have HB' := Lib.hid hb'; have HFR' := Lib.hid hf'; clear hv' hb' hf'))
  go_ret
  exact ⟨v', rfl, HV'.out, HB'.out, HFR'.out⟩
end Go.Proofs.YtcmlppknfbndaaaDoor
