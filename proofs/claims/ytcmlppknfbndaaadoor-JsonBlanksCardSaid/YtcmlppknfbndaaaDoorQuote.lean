/-
  json's quoted. Conditions: each contract's own.
-/
import Derived.Test.YtcmlppknfbndaaaDoorHex
namespace Go.Proofs.YtcmlppknfbndaaaDoor
open Go.RowKit Js

/-- The bytes so far, and the text's own bytes. -/
structure QIn (sv0 : Value) (B n : Nat) (xs : List Value) (w : World) (g : Nat) (s : List UInt8) (kk : Nat) (sv : Value) (wr : World) : Prop where
  own : wr.ownsRow B 5 1 sv (n + (34 :: (s.take kk).flatMap esc).length) (xs ++ Lib.byteCells (34 :: (s.take kk).flatMap esc))
  grown : w.grownBy wr sv0.ownBlock
  fresh : Fresh w sv0 sv
  bytes : Bytes wr g 0 s
  gne : some g ≠ sv.ownBlock
  glt : g < wr.heap.size
  size : B ≤ wr.heap.size
theorem QIn.lt {sv0 : Value} {B n : Nat} {xs : List Value} {w : World} {g : Nat} {s : List UInt8} {kk : Nat} {sv : Value} {wr : World} (h : QIn sv0 B n xs w g s kk sv wr) : ∀ k, sv.ownBlock = some k → B ≤ k := fun k hk => (h.own.lt k hk).1
theorem byteCells_append (a b : List UInt8) : Lib.byteCells (a ++ b) = Lib.byteCells a ++ Lib.byteCells b := by simp [Lib.byteCells]

theorem esc_next {s : List UInt8} {kk : Nat} (h : kk < s.length) : 34 :: (s.take (kk + 1)).flatMap esc = (34 :: (s.take kk).flatMap esc) ++ esc s[kk] := by
  rw [List.take_succ_eq_append_getElem h, List.flatMap_append, List.flatMap_cons, List.flatMap_nil, List.append_nil]
  rfl
theorem esc_len (c : UInt8) : (esc c).length ≤ 6 := by
  unfold esc
  repeat' split
  all_goals simp
theorem flat_len : ∀ l : List UInt8, (l.flatMap esc).length ≤ 6 * l.length
  | [] => by simp
  | c :: l => by
    rw [List.flatMap_cons, List.length_append, List.length_cons]
    have := esc_len c
    have := flat_len l
    omega
theorem grown_none_then {w w1 w2 : World} {row : Option Nat} (h : w.grownBy w1 row) (g : w1.grownBy w2 none) : w.grownBy w2 row :=
  ⟨g.os.trans h.os, g.tape.trans h.tape, g.output.trans h.output, Nat.le_trans h.size g.size, fun k hk hne => by
    rw [g.block k (Nat.lt_of_lt_of_le hk h.size) (by simp)]; exact h.block k hk hne⟩
theorem grown_fresh {w w1 w2 : World} {v v1 v2 : Value} (hg : w.grownBy w1 v.ownBlock) (hf : Fresh w v v1) (hg2 : w1.grownBy w2 v1.ownBlock) (hf2 : Fresh w1 v1 v2) : w.grownBy w2 v.ownBlock ∧ Fresh w v v2 := by
  refine ⟨⟨hg2.os.trans hg.os, hg2.tape.trans hg.tape, hg2.output.trans hg.output, Nat.le_trans hg.size hg2.size, fun k hk hne => ?_⟩, ?_⟩
  · rw [hg2.block k (Nat.lt_of_lt_of_le hk hg.size) ?_]
    · exact hg.block k hk hne
    · rcases hf with e | ⟨i, e, hi⟩
      · rw [e]; exact hne
      · rw [e]; simp; omega
  · rcases hf2 with e | ⟨i, e, hi⟩
    · rcases hf with e1 | ⟨i1, e1, hi1⟩
      · exact .inl (e.trans e1)
      · exact .inr ⟨i1, e.trans e1, hi1⟩
    · exact .inr ⟨i, e, Nat.le_trans hg.size hi⟩
theorem QIn.next {sv0 : Value} {B n : Nat} {xs : List Value} {w : World} {g : Nat} {s : List UInt8} {kk : Nat} {sv sv' : Value} {wr w' : World} (h : QIn sv0 B n xs w g s kk sv wr) (hk : kk < s.length)
    (ho : w'.ownsRow B 5 1 sv' (n + (34 :: (s.take kk).flatMap esc).length + (esc s[kk]).length) ((xs ++ Lib.byteCells (34 :: (s.take kk).flatMap esc)) ++ Lib.byteCells (esc s[kk]))) (hg : wr.grownBy w' sv.ownBlock) (hf : Fresh wr sv sv') : QIn sv0 B n xs w g s (kk + 1) sv' w' := by
  have hlt := h.glt
  have hgf := grown_fresh h.grown h.fresh hg hf
  refine ⟨?_, hgf.1, hgf.2, h.bytes.same fun _ => hg.block g hlt h.gne, ?_, Nat.lt_of_lt_of_le hlt hg.size, Nat.le_trans h.size hg.size⟩
  · rw [esc_next hk, byteCells_append, List.length_append, ← Nat.add_assoc, ← List.append_assoc]
    exact ho
  · rcases hf with e | ⟨i, e, hi⟩
    · rw [e]; exact h.gne
    · rw [e]; simp; omega
theorem two_of (x y : Int) : ∀ u ∈ [Value.int .u8 x, Value.int .u8 y], u.oneCell' = true := fun u hu => by
  simp at hu
  rcases hu with rfl | rfl <;> rfl

theorem Deb.below {w w' : World} {B : Nat} (h : Deb w) (hb : Below B w w') (hB : 7 < B) : Deb w' := (hb.cell (p := ⟨7, 15, none⟩) hB).trans h
theorem and15 (x : Nat) (h : x < 32) : bits BinOp.and IntKind.u8 (x : Int) 15 = ((x % 16 : Nat) : Int) := by
  have : ∀ n < 32, bits BinOp.and IntKind.u8 ((n : Nat) : Int) 15 = ((n % 16 : Nat) : Int) := by decide +kernel
  exact this x h
theorem five_of (x y z u v : Int) : ∀ t ∈ [Value.int .u8 x, Value.int .u8 y, Value.int .u8 z, Value.int .u8 u, Value.int .u8 v], t.oneCell' = true := fun t ht => by
  simp at ht
  rcases ht with rfl | rfl | rfl | rfl | rfl <;> rfl
theorem six_cells (x : Nat) (h : x < 32) : Lib.byteCells [92, 117, 48, 48, UInt8.ofNat (48 + x / 16), UInt8.ofNat (hexd (x % 16)).toNat] = [Value.int .u8 92, Value.int .u8 117, Value.int .u8 48, Value.int .u8 48, Value.int .u8 (48 + (x : Int) / 16)] ++ [Value.int .u8 (hexd (x % 16))] := by
  have h1 : ∀ n < 32, ((UInt8.ofNat (48 + n / 16)).toNat : Int) = 48 + ((n : Nat) : Int) / 16 ∧ ((UInt8.ofNat (hexd (n % 16)).toNat).toNat : Int) = hexd (n % 16) := by decide +kernel
  obtain ⟨a, b⟩ := h1 x h
  simp only [Lib.byteCells, List.map_cons, List.map_nil, a, b]
  rfl

def lett (j : Nat) : UInt8 := [34, 92, 98, 102, 110, 114, 116].getD j 0
theorem lett_eq (j : Nat) (hj : j < 7) {h : j < (ByteArray.mk #[34, 92, 98, 102, 110, 114, 116]).size} : ((ByteArray.mk #[34, 92, 98, 102, 110, 114, 116])[j]'h).toNat = (lett j).toNat := by
  have hj' : j = 0 ∨ j = 1 ∨ j = 2 ∨ j = 3 ∨ j = 4 ∨ j = 5 ∨ j = 6 := by omega
  rcases hj' with rfl | rfl | rfl | rfl | rfl | rfl | rfl <;> rfl
theorem esc_cases (c : UInt8) : (∃ j, j < 7 ∧ Lib.indexByte [34, 92, 8, 12, 10, 13, 9] c = ((j : Nat) : Int) ∧ esc c = [92, lett j]) ∨
    (Lib.indexByte [34, 92, 8, 12, 10, 13, 9] c = -1 ∧ c.toNat < 32 ∧ esc c = [92, 117, 48, 48, UInt8.ofNat (48 + c.toNat / 16), UInt8.ofNat (hexd (c.toNat % 16)).toNat]) ∨
    (Lib.indexByte [34, 92, 8, 12, 10, 13, 9] c = -1 ∧ 32 ≤ c.toNat ∧ esc c = [c]) := by
  have h : ∀ n < 256, (∃ j, j < 7 ∧ Lib.indexByte [34, 92, 8, 12, 10, 13, 9] (UInt8.ofNat n) = ((j : Nat) : Int) ∧ esc (UInt8.ofNat n) = [92, lett j]) ∨
    (Lib.indexByte [34, 92, 8, 12, 10, 13, 9] (UInt8.ofNat n) = -1 ∧ n < 32 ∧ esc (UInt8.ofNat n) = [92, 117, 48, 48, UInt8.ofNat (48 + n / 16), UInt8.ofNat (hexd (n % 16)).toNat]) ∨
    (Lib.indexByte [34, 92, 8, 12, 10, 13, 9] (UInt8.ofNat n) = -1 ∧ 32 ≤ n ∧ esc (UInt8.ofNat n) = [UInt8.ofNat n]) := by decide +kernel
  have h1 := h c.toNat (UInt8.toNat_lt c)
  rw [UInt8.ofNat_toNat] at h1
  exact h1

set_option maxRecDepth 100000 in
set_option maxHeartbeats 4000000 in
theorem quoted_any (B n : Nat) (sv : Value) (s : List UInt8) (xs : List Value) (w : World) (hown : w.ownsRow B 5 1 sv n xs) (hBw : B ≤ w.heap.size) (hs : s.length ≤ 140737488355328) (hn : n + 6 * s.length + 2 ≤ 140737488355328) (h : Deb w) (hdB : 7 < B) :
    Calls Tryd.prog 34 #[sv, .string ⟨s.toArray⟩] w fun e w' => ∃ v' , e = .returned v' ∧ w'.ownsRow B 5 1 v' (n + (Js.quoted s).length) (xs ++ Lib.byteCells (Js.quoted s)) ∧ w.grownBy w' sv.ownBlock ∧ Fresh w sv v' := by
  obtain ⟨RQ, hRQ⟩ : ∃ x, Js.quoted s = x := ⟨_, rfl⟩
  rw [hRQ]
  have HRQ := Lib.hid hRQ
  clear hRQ
  obtain ⟨i0, hi, hz0, hz1, hz2⟩ := info_parts info8
  have HOWN := Lib.hid hown
  have HOW2 : Hid (∀ o, (w.alloc o).ownsRow B 5 1 sv n xs) := Lib.hid (fun o => hown.alloc o)
  have HBW := Lib.hid hBw
  have hlo : ∀ k, sv.ownBlock = some k → B ≤ k := fun k hk => (hown.lt k hk).1
  have HLO := Lib.hid hlo
  have HNL : Hid (n + 1 ≤ maxLen ∧ (n + 1) * 1 ≤ 140737488355328) := Lib.hid (by unfold maxLen; omega)
  have hsz : s.length ≤ 9223372036854775807 := by omega
  have HD := Lib.hid h
  have HNN := Lib.hid hn
  have hconv := fun W => Lib.run_convert_string_bytes (P := Tryd.prog) W 9 22 5 ⟨s.toArray⟩ Tryd.underlying9 Tryd.underlying22 Tryd.underlying5
  have hsz0 : (ByteArray.mk s.toArray).size = s.length := by simp [ByteArray.size]
  rw [hsz0] at hconv
  clear hown hlo h hn hBw
  go_enter Tryd.func34, Tryd.ntmps34
  go_wp2_with (first | (at_builtin; refine wpList_append_fresh _ rfl _ _ 22 rfl B 5 i0 (.int .u8 0) 1 1 Tryd.underlying22 hi hz0 hz1 hz2 rfl (by decide) sv n xs rfl (HOW2.out _) ⟨w.heap.size, 0, none⟩ 1 1 [.int .u8 34] rfl rfl (new_cells w #[Value.int .u8 34] _) (one_of _) HNL.out.1 HNL.out.2 (by have := HBW.out; simp; omega) ?_; intro v1 w1 hv' hg' hf'; have HV1 := Lib.hid hv'; have HG1 := Lib.hid (grown_trans (grown_one w _) hg'); have HFR1 := Lib.hid (fresh_back (w := w) (by simp) hf'); clear hv' hg' hf'))
  have hq0 : QIn sv B n xs w w1.heap.size s 0 v1 (Lib.bytesWorld w1 5 ⟨s.toArray⟩) := by
    have hb := below_bytesWorld w1 5 ⟨s.toArray⟩
    have hs1 : B ≤ w1.heap.size := Nat.le_trans HBW.out HG1.out.size
    refine ⟨?_, grown_none_then HG1.out (below_grown hb), HFR1.out, fun i hi => by rw [Nat.zero_add]; exact Lib.bytesWorld_cell w1 _ ⟨s.toArray⟩ i (by simpa [ByteArray.size] using hi), fun e => ?_, by rw [Lib.bytesWorld_size]; omega, by rw [Lib.bytesWorld_size]; omega⟩
    · have := HV1.out.kept (below_grown hb) (by cases v1.ownBlock <;> simp)
      simpa [Lib.byteCells] using this
    · have := (HV1.out.lt _ e.symm).2
      omega
  have HQ0 := Lib.hid hq0
  clear hq0 hconv
  generalize Lib.bytesWorld w1 5 ⟨s.toArray⟩ = w2 at *
  generalize w1.heap.size = g at *
  go_loopg [0, 14] s.length (fun gg s0 s14 wr => ∃ kk : Nat, kk ≤ s.length ∧ s.length - kk ≤ gg ∧ s14 = .int .i64 kk ∧ Hid (QIn sv B n xs w g s kk s0 wr))
  case atStart => exact ⟨0, Nat.zero_le _, by omega, rfl, HQ0⟩
  case round =>
    obtain ⟨kk, hkk, hg, rfl, Q⟩ := hrel
    by_cases hlt : kk < s.length
    · have hltz : decide ((kk : Int) < (s.length : Int)) = true := by simp only [decide_eq_true_eq]; omega
      obtain ⟨c, hc⟩ : ∃ c, s[kk] = c := ⟨_, rfl⟩
      have hcell : wr.cell? ⟨g, kk, none⟩ = some (.int .u8 c.toNat) := by
        have := Q.out.bytes kk hlt
        rw [Nat.zero_add] at this
        rw [this, ← hc]
        simp [List.getD, hlt]
      have HC := Lib.hid hc
      have hix := Tryd.strings_IndexByte ⟨#[34, 92, 8, 12, 10, 13, 9]⟩ c.toNat wr
      have hcc : ((c.toNat : Int)).toNat.toUInt8 = c := by
        rw [Int.toNat_natCast]; exact UInt8.ofNat_toNat
      rw [hcc] at hix
      have ho := Q.out.own
      have hle : (34 :: (s.take kk).flatMap esc).length ≤ 6 * kk + 1 := by
        have := flat_len (s.take kk)
        rw [List.length_take, Nat.min_eq_left (by omega)] at this
        rw [List.length_cons]; omega
      have HGE := Lib.hid hg
      have hwr : IntKind.i64.wrap ((kk : Int) + 1) = ((kk + 1 : Nat) : Int) := by
        rw [show ((kk + 1 : Nat) : Int) = (kk : Int) + 1 by omega]
        exact wrap_small _ (by omega) (by omega)
      have HNX := Lib.hid (fun sv' w' => @QIn.next sv B n xs w g s kk u0 sv' wr w' Q.out hlt)
      rw [hc] at HNX
      obtain ⟨a, ha⟩ : ∃ a, 34 :: (s.take kk).flatMap esc = a := ⟨_, rfl⟩
      rw [ha] at ho hle HNX
      have HSZ := Lib.hid Q.out.size
      have HO := Lib.hid ho
      have HOA : Hid (∀ o, (wr.alloc o).ownsRow B 5 1 u0 (n + a.length) (xs ++ Lib.byteCells a)) := Lib.hid (fun o => ho.alloc o)
      have hnn := HNN.out
      have hcb := UInt8.toNat_lt c
      rcases esc_cases c with ⟨j, hj, e1, e2⟩ | ⟨e1, e2, e3⟩ | ⟨e1, e2, e3⟩
      · have hix' : Calls Tryd.prog 51 #[.string ⟨#[34, 92, 8, 12, 10, 13, 9]⟩, .int .u8 c.toNat] wr fun e w' => e = .returned (.int .i64 j) ∧ wr = w' := by
          rw [← e1]; exact hix.mono fun e w' ⟨x1, x2⟩ => ⟨x1, x2.symm⟩
        have HIX := Lib.hid hix'
        have HN2 : Hid (n + a.length + 2 ≤ maxLen ∧ (n + a.length + 2) * 1 ≤ 140737488355328) := Lib.hid (by unfold maxLen; omega)
        have tj : decide ((0 : Int) ≤ (j : Int)) = true := by simp
        have tj7 : (j : Int) < 7 := by omega
        have HE := Lib.hid e2
        clear hix hix' ho ha hle hnn e1 e2 hc hcc hg
        generalize c.toNat = x at *
        go_wp2_with (first | (go_at_call 51; refine HIX.out.mono ?_; rintro e w' ⟨rfl, rfl⟩) | (at_builtin; refine wpList_append_fresh _ rfl _ _ 22 rfl B 5 i0 (.int .u8 0) 1 1 Tryd.underlying22 hi hz0 hz1 hz2 rfl (by decide) u0 (n + a.length) _ rfl (HOA.out _) ⟨wr.heap.size, 0, none⟩ 2 2 [.int .u8 92, .int .u8 (lett j).toNat] rfl rfl (by rw [← lett_eq j hj]; exact new_cells wr #[Value.int .u8 92, _] _) (two_of _ _) HN2.out.1 HN2.out.2 (by have := HSZ.out; simp; omega) ?_; intro v3 w3 hv' hg' hf'; have HV3 := Lib.hid hv'; have HG3 := Lib.hid hg'; have HF3 := Lib.hid hf'; clear hv' hg' hf'))
        go_roundg (s.length - (kk + 1))
        case measure => have := HGE.out; omega
        case rel =>
          refine ⟨kk + 1, by omega, Nat.le_refl _, rfl, Lib.hid (HNX.out _ _ ?_ (grown_trans (grown_one _ _) HG3.out) (fresh_back (by simp) HF3.out))⟩
          rw [HE.out]
          exact HV3.out
      · have hix' : Calls Tryd.prog 51 #[.string ⟨#[34, 92, 8, 12, 10, 13, 9]⟩, .int .u8 c.toNat] wr fun e w' => e = .returned (.int .i64 (-1)) ∧ wr = w' := by
          rw [← e1]; exact hix.mono fun e w' ⟨x1, x2⟩ => ⟨x1, x2.symm⟩
        have HIX := Lib.hid hix'
        have HN2 : Hid (n + a.length + 5 ≤ maxLen ∧ (n + a.length + 5) * 1 ≤ 140737488355328) := Lib.hid (by unfold maxLen; omega)
        have HN3 : Hid (n + a.length + 5 + 1 ≤ 140737488355328) := Lib.hid (by omega)
        have t32 : decide ((c.toNat : Int) < (32 : Int)) = true := by simp only [decide_eq_true_eq]; omega
        have HE := Lib.hid e3
        clear hix hix' ho ha hle hnn e1 e3 hc hcc hg hcb
        obtain ⟨x, hx⟩ : ∃ x, c.toNat = x := ⟨_, rfl⟩
        rw [hx] at hcell HIX t32 e2 HE
        have h15 := and15 x e2
        have HQB := Lib.hid (below_of_grown (Below.refl B w) Q.out.grown HBW.out HLO.out)
        have HLT := Lib.hid Q.out.lt
        clear hx
        go_wp2_with (first | (go_at_call 51; refine HIX.out.mono ?_; rintro e w' ⟨rfl, rfl⟩) | (at_builtin; refine wpList_append_fresh _ rfl _ _ 22 rfl B 5 i0 (.int .u8 0) 1 1 Tryd.underlying22 hi hz0 hz1 hz2 rfl (by decide) u0 (n + a.length) _ rfl (HOA.out _) ⟨wr.heap.size, 0, none⟩ 5 5 [.int .u8 92, .int .u8 117, .int .u8 48, .int .u8 48, .int .u8 (48 + (x : Int) / 16)] rfl rfl (new_cells wr #[Value.int .u8 92, Value.int .u8 117, Value.int .u8 48, Value.int .u8 48, Value.int .u8 (48 + (x : Int) / 16)] _) (five_of _ _ _ _ _) HN2.out.1 HN2.out.2 (by have := HSZ.out; simp; omega) ?_; intro v3 w3 hv' hg' hf'; have HV3 := Lib.hid hv'; have HG3 := Lib.hid (grown_trans (grown_one _ _) hg'); have HF3 := Lib.hid (fresh_back (w := wr) (by simp) hf'); clear hv' hg' hf') | (go_at_call 52; refine (append_hex (x % 16) (by omega) B (n + a.length + 5) v3 _ w3 HV3.out (Nat.le_trans HSZ.out HG3.out.size) HN3.out (HD.out.below (below_of_grown HQB.out HG3.out HSZ.out HLT.out) hdB)).mono ?_; rintro e w4 ⟨v4, rfl, hv4, hg4, hf4⟩; have HV4 := Lib.hid hv4; have HG4 := Lib.hid hg4; have HF4 := Lib.hid hf4; clear hv4 hg4 hf4))
        go_roundg (s.length - (kk + 1))
        case measure => have := HGE.out; omega
        case rel =>
          have hgf := grown_fresh HG3.out HF3.out HG4.out HF4.out
          refine ⟨kk + 1, by omega, Nat.le_refl _, rfl, Lib.hid (HNX.out _ _ ?_ hgf.1 hgf.2)⟩
          rw [HE.out, six_cells x e2, ← List.append_assoc]
          exact HV4.out
      · have hix' : Calls Tryd.prog 51 #[.string ⟨#[34, 92, 8, 12, 10, 13, 9]⟩, .int .u8 c.toNat] wr fun e w' => e = .returned (.int .i64 (-1)) ∧ wr = w' := by
          rw [← e1]; exact hix.mono fun e w' ⟨x1, x2⟩ => ⟨x1, x2.symm⟩
        have HIX := Lib.hid hix'
        have HN2 : Hid (n + a.length + 1 ≤ maxLen ∧ (n + a.length + 1) * 1 ≤ 140737488355328) := Lib.hid (by unfold maxLen; omega)
        have t32 : decide ((c.toNat : Int) < (32 : Int)) = false := by simp only [decide_eq_false_iff_not]; omega
        have HE := Lib.hid e3
        have HX : Hid ((c.toNat : Int) = (c.toNat : Int)) := Lib.hid rfl
        clear hix hix' ho ha hle hnn e1 e2 e3 hc hcc hg hcb
        obtain ⟨x, hx⟩ : ∃ x, c.toNat = x := ⟨_, rfl⟩
        rw [hx] at hcell HIX t32
        have HXX := Lib.hid hx
        clear hx
        go_wp2_with (first | (go_at_call 51; refine HIX.out.mono ?_; rintro e w' ⟨rfl, rfl⟩) | (at_builtin; refine wpList_append_fresh _ rfl _ _ 22 rfl B 5 i0 (.int .u8 0) 1 1 Tryd.underlying22 hi hz0 hz1 hz2 rfl (by decide) u0 (n + a.length) _ rfl (HOA.out _) ⟨wr.heap.size, 0, none⟩ 1 1 [.int .u8 x] rfl rfl (new_cells wr #[Value.int .u8 x] _) (one_of _) HN2.out.1 HN2.out.2 (by have := HSZ.out; simp; omega) ?_; intro v3 w3 hv' hg' hf'; have HV3 := Lib.hid hv'; have HG3 := Lib.hid hg'; have HF3 := Lib.hid hf'; clear hv' hg' hf'))
        go_roundg (s.length - (kk + 1))
        case measure => have := HGE.out; omega
        case rel =>
          refine ⟨kk + 1, by omega, Nat.le_refl _, rfl, Lib.hid (HNX.out _ _ ?_ (grown_trans (grown_one _ _) HG3.out) (fresh_back (by simp) HF3.out))⟩
          rw [HE.out]
          have := HV3.out
          rw [← HXX.out] at this
          exact this
    · have hltz : decide ((kk : Int) < (s.length : Int)) = false := by simp only [decide_eq_false_iff_not]; omega
      obtain rfl : kk = s.length := by omega
      have hl6 := flat_len s
      have hq := Q.out
      obtain ⟨a, ha⟩ : ∃ a, 34 :: (s.take s.length).flatMap esc = a := ⟨_, rfl⟩
      have HFIN : Hid (RQ = a ++ [34]) := by rw [← HRQ.out, ← ha, List.take_length]; exact Lib.hid rfl
      have hal : a.length ≤ 6 * s.length + 1 := by rw [← ha, List.take_length, List.length_cons]; omega
      obtain ⟨ho, hbl, hfr, _, _, _, hsz⟩ := hq
      rw [ha] at ho
      have HO := Lib.hid ho
      have HOA : Hid (∀ o, (wr.alloc o).ownsRow B 5 1 u0 (n + a.length) (xs ++ Lib.byteCells a)) := Lib.hid (fun o => ho.alloc o)
      have HBL := Lib.hid hbl
      have HFRQ := Lib.hid hfr
      have HSZ := Lib.hid hsz
      have hnn := HNN.out
      have HN2 : Hid (n + a.length + 1 ≤ maxLen ∧ (n + a.length + 1) * 1 ≤ 140737488355328) := Lib.hid (by unfold maxLen; omega)
      have HL2 : Hid (∀ k, u0.ownBlock = some k → B ≤ k) := Lib.hid (fun k hk => (ho.lt k hk).1)
      clear ho hbl hfr hsz ha hal hl6 hnn
      go_wp2_with (first | (at_builtin; refine wpList_append_fresh _ rfl _ _ 22 rfl B 5 i0 (.int .u8 0) 1 1 Tryd.underlying22 hi hz0 hz1 hz2 rfl (by decide) u0 (n + a.length) _ rfl (HOA.out _) ⟨wr.heap.size, 0, none⟩ 1 1 [.int .u8 34] rfl rfl (new_cells wr #[Value.int .u8 34] _) (one_of _) HN2.out.1 HN2.out.2 (by have := HSZ.out; simp; omega) ?_; intro v3 w3 hv' hg' hf'; have HV3 := Lib.hid hv'; have HG3 := Lib.hid (grown_trans (grown_one wr _) hg'); have HF3 := Lib.hid (fresh_back (w := wr) (by simp) hf'); clear hv' hg' hf'))
      go_ret
      have hgf := grown_fresh HBL.out HFRQ.out HG3.out HF3.out
      refine ⟨v3, rfl, ?_, hgf.1, hgf.2⟩
      rw [HFIN.out, byteCells_append, List.length_append, ← Nat.add_assoc, ← List.append_assoc]
      exact HV3.out
end Go.Proofs.YtcmlppknfbndaaaDoor
