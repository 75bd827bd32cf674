/-
  The law JsonBlanks, walked. Conditions: each contract's own.
-/
import Derived.Test.YtcmlppknfbndaaaDoorShort
import Derived.Test.YtcmlppknfbndaaaDoorBlankLaw
import Derived.Test.YtcmlppknfbndaaaDoorCopied
namespace Go.Proofs.YtcmlppknfbndaaaDoor
open Go.RowKit Js

theorem own_app {w : World} {B : Nat} {v : Value} {a b : List UInt8} (h : w.ownsRow B 5 1 v (a.length + b.length) (Lib.byteCells a ++ Lib.byteCells b)) : w.ownsRow B 5 1 v (a ++ b).length (Lib.byteCells (a ++ b)) := by
  rw [byteCells_append, List.length_append]; exact h
theorem own_app_nil {w : World} {B : Nat} {v : Value} {a b : List UInt8} (ha : a = []) (h : w.ownsRow B 5 1 v (a.length + b.length) (Lib.byteCells a ++ Lib.byteCells b)) : w.ownsRow B 5 1 v (a ++ b ++ a).length (Lib.byteCells (a ++ b ++ a)) := by
  have := own_app h
  subst ha
  rw [List.append_nil]; exact this
theorem more_blank (x : Nat) (hx : x < 256) (h2 : ((x : Int) == 32) = false) (h3 : ((x : Int) == 9) = false) (h4 : ((x : Int) == 10) = false) (h5 : ((x : Int) == 13) = false) : ([32, 9, 10, 13] : List UInt8).contains (UInt8.ofNat x) = false := by
  have key : ∀ n < 256, n ≠ 32 → n ≠ 9 → n ≠ 10 → n ≠ 13 → ([32, 9, 10, 13] : List UInt8).contains (UInt8.ofNat n) = false := by decide +kernel
  rw [beq_eq_false_iff_ne] at h2 h3 h4 h5
  exact key x hx (by omega) (by omega) (by omega) (by omega)
theorem own_app_more {w : World} {B : Nat} {v : Value} {a : List UInt8} {x : Nat} (hx : x < 256) (h : w.ownsRow B 5 1 v (a.length + 1) (Lib.byteCells a ++ [.int .u8 x])) : w.ownsRow B 5 1 v (a ++ [UInt8.ofNat x]).length (Lib.byteCells (a ++ [UInt8.ofNat x])) := by
  refine own_app (b := [UInt8.ofNat x]) ?_
  have e : Lib.byteCells [UInt8.ofNat x] = [.int .u8 x] := by
    show [Value.int .u8 ((UInt8.ofNat x).toNat : Int)] = _
    rw [ofNat_toNat hx]
  rw [e]; exact h
theorem grown_below {w w7 w8 : World} {B n : Nat} {v : Value} {xs : List Value} {o : Obj} (h : w7.ownsRow B 5 1 v n xs) (hB : B ≤ w7.heap.size) (hw : w.heap.size ≤ B) (hg : (w7.alloc o).grownBy w8 v.ownBlock) : Below w.heap.size w7 w8 :=
  (((Below.refl B w7).alloc hB o).trans (Fr.of_grown (h.alloc o) (by simp; omega) hg).below).mono hw
theorem mod4_toNat (x : Nat) : ((x : Int) % 4).toNat = x % 4 := by omega

/-- The blanks so far. -/
structure BIn (w2 : World) (bs : List UInt8) (ov : Value) (wr : World) : Prop where
  below : Below (w2.heap.size + 1) (w2.alloc (.cells #[.int .u8 32, .int .u8 9, .int .u8 10, .int .u8 13] 5)) wr
  own : wr.ownsRow (w2.heap.size + 1) 5 1 ov bs.length (Lib.byteCells bs)
theorem BIn.app {w2 : World} {bs : List UInt8} {ov : Value} {wr : World} (h : BIn w2 bs ov wr) {x : List UInt8} {ov' : Value} {w' : World} (o : Obj)
    (ho : w'.ownsRow (w2.heap.size + 1) 5 1 ov' (bs.length + x.length) (Lib.byteCells bs ++ Lib.byteCells x)) (hg : (wr.alloc o).grownBy w' ov.ownBlock) : BIn w2 (bs ++ x) ov' w' := by
  have hs : w2.heap.size + 1 ≤ wr.heap.size := by have := h.below.size; simpa using this
  refine ⟨below_of_grown (h.below.alloc hs o) hg (by simp; omega) (fun k hk => (h.own.lt k hk).1), by rw [byteCells_append, List.length_append]; exact ho⟩
theorem space_cell (w2 : World) (x : Nat) (hx : x < 256) : (w2.alloc (.cells #[.int .u8 32, .int .u8 9, .int .u8 10, .int .u8 13] 5)).cell? ⟨w2.heap.size, x % 4, none⟩ = some (.int .u8 (spc (UInt8.ofNat x)).toNat) := by
  have h := cells_of_block (heap_alloc_new w2 (.cells #[.int .u8 32, .int .u8 9, .int .u8 10, .int .u8 13] 5)) (x % 4)
  have key : ∀ n < 256, ([.int .u8 32, .int .u8 9, .int .u8 10, .int .u8 13] : List Value)[n % 4]? = some (.int .u8 (spc (UInt8.ofNat n)).toNat) := by
    intro n hn
    unfold spc
    rw [ofNat_toNat hn]
    have h4 : n % 4 = 0 ∨ n % 4 = 1 ∨ n % 4 = 2 ∨ n % 4 = 3 := by omega
    rcases h4 with h | h | h | h <;> rw [h] <;> rfl
  have := h _ (key x hx)
  rwa [Nat.zero_add] at this

set_option maxHeartbeats 4000000 in
set_option maxRecDepth 100000 in
theorem json_blanks (v : V) (cs : List Value) (b : Nat) (bl : List UInt8) (bv : Value) (more : Nat) (hmore : more < 256) (w : World) (ok : Nat → Prop) (hok : ∀ k, ok k → k < w.heap.size) (hV : VAt w ok v cs) (hfit : FitV v) (hlim : Lim v) (hfits : Fits v) (hS : Slice w b bv bl) (hb : b < w.heap.size) (hE : Env w) (hD : Deb w) :
    Calls Tryd.prog 4 #[.agg cs.toArray, bv, .int .u8 more] w fun e w' => e = .returned (.bool true) ∧ Below w.heap.size w w' := by
  have hS0 := hS
  obtain ⟨p0, c0, rfl, hlc, hcm, hp0⟩ := hS
  obtain ⟨p, c, q, d, hcs, _, _, _, _⟩ := hV.shape
  simp only [strv] at hcs
  have hB0 : Below w.heap.size w (w.alloc (Obj.cells cs.toArray 27)) := (Below.refl _ _).alloc (Nat.le_refl _) _
  have HBX : Hid (∀ W, Below (w.alloc (Obj.cells cs.toArray 27)).heap.size (w.alloc (Obj.cells cs.toArray 27)) W → Five W w.heap.size (.int .u8 v.kind) (.int .i64 v.num) (.string ⟨v.text.toArray⟩) (.slice p v.kids.length c) (.slice q v.names.length d)) :=
    Lib.hid (fun W h => (h.block _ (by simp)).trans (by rw [heap_alloc_new, hcs]))
  have HSZ : Hid ((w.alloc (Obj.cells cs.toArray 27)).heap.size = w.heap.size + 1) := Lib.hid (by simp)
  have hvast := vast_any v cs (w.alloc (Obj.cells cs.toArray 27)) ok (fun k hk => by have := hok k hk; simp; omega) (VAt.same (fun k hk => hB0.block k (hok k hk)) _ _ hV) hlim
  have HE := Lib.hid hE
  have HD := Lib.hid hD
  have HDL := Lib.hid (cell_lt hD)
  have HV := Lib.hid hV
  have HOK := Lib.hid hok
  have HFIT := Lib.hid hfit
  have HFITS := Lib.hid hfits
  have HS0 := Lib.hid hS0
  have HB0 := Lib.hid hB0
  obtain ⟨vb, hvb⟩ : ∃ vb, decide (2000 < sizeV 2000 30 v) = vb := ⟨_, rfl⟩
  have hput : vb = false → 6 * (put v).length + 21 ≤ 140737488355328 := fun e => by
    rw [e, decide_eq_false_iff_not] at hvb
    have := put_size 2000 (by decide) 30 v hfits (by omega)
    omega
  rw [hvb] at hvast
  have HVAST := Lib.hid hvast
  have HPUT := Lib.hid hput
  subst hcs
  clear hB0 hvast hE hD hV hok hfit hlim hfits hS0 hvb hput hp0
  obtain ⟨i0, hi, hz0, hz1, hz2⟩ := info_parts info8
  cases vb with
  | true =>
    go_enter Tryd.func4, Tryd.ntmps4
    go_wp2_with fail
    refine HVAST.out.mono ?_
    rintro e w1 ⟨rfl, hb1⟩
    have HB1 := Lib.hid (HB0.out.trans (hb1.mono HB0.out.size))
    clear hb1
    go_wp2_with (first | (go_at_call 6; refine (works_any _ (HE.out.below HB1.out HE.out.size) (HD.out.below HB1.out HDL.out)).mono ?_; rintro e w2 ⟨rfl, hb2⟩; have HB2 := Lib.hid (HB1.out.trans (hb2.mono HB1.out.size)); clear hb2))
    go_ret
    exact ⟨rfl, HB2.out⟩
  | false =>
    have HPL := Lib.hid (HPUT.out rfl)
    clear HPUT
    by_cases hl : 300 < bl.length
    · have hl' : decide ((300 : Int) < (bl.length : Int)) = true := by simp only [decide_eq_true_eq]; omega
      go_enter Tryd.func4, Tryd.ntmps4
      go_wp2_with fail
      refine HVAST.out.mono ?_
      rintro e w1 ⟨rfl, hb1⟩
      have HB1 := Lib.hid (HB0.out.trans (hb1.mono HB0.out.size))
      clear hb1
      go_wp2_with (first | (go_at_call 6; refine (works_any _ (HE.out.below HB1.out HE.out.size) (HD.out.below HB1.out HDL.out)).mono ?_; rintro e w2 ⟨rfl, hb2⟩; have HB2 := Lib.hid (HB1.out.trans (hb2.mono HB1.out.size)); clear hb2))
      go_ret
      exact ⟨rfl, HB2.out⟩
    · have hl' : decide ((300 : Int) < (bl.length : Int)) = false := by simp only [decide_eq_false_iff_not]; omega
      go_enter Tryd.func4, Tryd.ntmps4
      go_wp2_with fail
      refine HVAST.out.mono ?_
      rintro e w1 ⟨rfl, hb1⟩
      have HB1 := Lib.hid (HB0.out.trans (hb1.mono HB0.out.size))
      obtain ⟨a0, a1, a2, a3, a4⟩ := (HBX.out _ hb1).cells
      have HBY := Lib.hid hb1
      clear hb1
      go_wp2_with fail
      have HV1 := Lib.hid (VAt.same (fun k hk => HB1.out.block k (HOK.out k hk)) _ _ HV.out)
      have HP := Lib.hid (print_any v _ w1 ok (fun k hk => Nat.lt_of_lt_of_le (HOK.out k hk) HB1.out.size) HV1.out HFIT.out (HE.out.below HB1.out HE.out.size) (HD.out.below HB1.out HDL.out) HPL.out)
      cases hm : may 8 v with
      | false =>
        have hpr : Js.print v = ([], 1) := by unfold Js.print; rw [hm]; rfl
        have hp := HP.out
        rw [hpr] at hp
        refine hp.mono ?_
        clear hp hpr hm HP a0 a1 a2 a3 a4
        rintro e w2 ⟨v2, rfl, ho2, hf2⟩
        have HB2 := Lib.hid (HB1.out.trans (hf2.below.mono HB1.out.size))
        clear ho2 hf2
        go_wp2_with (first | (go_at_call 6; refine (works_any _ (HE.out.below HB2.out HE.out.size) (HD.out.below HB2.out HDL.out)).mono ?_; rintro e wz ⟨rfl, hbz⟩; have HBZ := Lib.hid (HB2.out.trans (hbz.mono HB2.out.size)); clear hbz))
        go_ret
        exact ⟨rfl, HBZ.out⟩
      | true =>
        obtain ⟨m, hmm⟩ : ∃ m, put v = m := ⟨_, rfl⟩
        have hpr : Js.print v = (m, 0) := by unfold Js.print; rw [hm, ← hmm]; rfl
        have hne : m ≠ [] := by
          obtain ⟨x, r, e, _⟩ := put_head v 8 hm
          rw [← hmm, e]; simp
        have hp := HP.out
        rw [hpr] at hp
        refine hp.mono ?_
        have HMM := Lib.hid hmm
        have HM := Lib.hid hm
        clear hp hpr hm hmm HP a0 a1 a2 a3 a4
        rintro e w2 ⟨v2, rfl, ho2, hf2⟩
        have HB2 := Lib.hid (HB1.out.trans (hf2.below.mono HB1.out.size))
        have HB12 := Lib.hid hf2.below
        obtain ⟨g2, hs2, hg2⟩ := slice_of_own ho2
        have hg2' := hg2 hne
        obtain ⟨o2, c2, hv2, hlc2, hcm2, hby2⟩ := hs2.cons hne
        subst hv2
        have HY2 := Lib.hid hby2
        have HG2 := Lib.hid hg2'
        have HNE := Lib.hid hne
        clear ho2 hf2 hs2 hg2 hg2' hby2 hne
        by_cases hml : 16384 < m.length
        · have hml' : decide ((16384 : Int) < (m.length : Int)) = true := by simp only [decide_eq_true_eq]; omega
          go_wp2_with (first | (go_at_call 6; refine (works_any _ (HE.out.below HB2.out HE.out.size) (HD.out.below HB2.out HDL.out)).mono ?_; rintro e wz ⟨rfl, hbz⟩; have HBZ := Lib.hid (HB2.out.trans (hbz.mono HB2.out.size)); clear hbz))
          go_ret
          exact ⟨rfl, HBZ.out⟩
        · have hml' : decide ((16384 : Int) < (m.length : Int)) = false := by simp only [decide_eq_false_iff_not]; omega
          have HIN : Hid (BIn w2 (spcs (bl.take 0)) (.slice none 0 0) (w2.alloc (.cells #[.int .u8 32, .int .u8 9, .int .u8 10, .int .u8 13] 5))) := Lib.hid ⟨Below.refl _ _, own_nil _ _ _⟩
          go_wp2
          go_loopg [10, 11] bl.length (fun gg s10 s11 wr => ∃ kk : Nat, kk ≤ bl.length ∧ bl.length - kk ≤ gg ∧ s11 = .int .i64 kk ∧ Hid (BIn w2 (spcs (bl.take kk)) s10 wr))
          case atStart => exact ⟨0, Nat.zero_le _, by omega, rfl, HIN⟩
          case round =>
            clear HIN
            obtain ⟨kk, hkk, hg, rfl, A⟩ := hrel
            have HBR := Lib.hid (HB2.out.trans ((((Below.refl _ _).alloc (Nat.le_refl _) (.cells #[.int .u8 32, .int .u8 9, .int .u8 10, .int .u8 13] 5)).trans (A.out.below.mono (Nat.le_succ _))).mono HB2.out.size))
            by_cases hlt : kk < bl.length
            · have hltz : decide ((kk : Int) < (bl.length : Int)) = true := by simp only [decide_eq_true_eq]; omega
              have hbne : bl ≠ [] := by intro e; subst e; simp at hlt
              obtain ⟨pp, cc, e1, _, _, hpp⟩ := HS0.out
              injection e1 with e1 e2 e3
              obtain ⟨o, e4, hB⟩ := hpp hbne
              rw [e4] at e1
              subst e1 e3
              have hc1 : wr.cell? ⟨b, o + kk, none⟩ = some (.int .u8 bl[kk].toNat) := by
                rw [HBR.out.cell (p := ⟨b, o + kk, none⟩) hb, hB kk hlt]
                simp [List.getD, hlt]
              obtain ⟨x, hx⟩ : ∃ x : Nat, bl[kk].toNat = x := ⟨_, rfl⟩
              have hx256 : x < 256 := by rw [← hx]; exact bl[kk].toNat_lt
              have hc2 : wr.cell? ⟨w2.heap.size, x % 4, none⟩ = some (.int .u8 (spc (UInt8.ofNat x)).toNat) :=
                (A.out.below.cell (p := ⟨w2.heap.size, x % 4, none⟩) (Nat.lt_succ_self _)).trans (space_cell w2 x hx256)
              have hbx : bl[kk] = UInt8.ofNat x := by rw [← hx, UInt8.ofNat_toNat]
              have hnx := spcs_next bl kk hlt
              rw [hbx] at hnx
              rw [hx] at hc1
              have hm4 := mod4_toNat x
              obtain ⟨Ss, hSs⟩ : ∃ l, spcs (bl.take kk) = l := ⟨_, rfl⟩
              have hsl : Ss.length ≤ 300 := by rw [← hSs]; simp [spcs]; omega
              rw [hSs] at A hnx
              obtain ⟨y, hy⟩ : ∃ y, spc (UInt8.ofNat x) = y := ⟨_, rfl⟩
              rw [hy] at hc2 hnx
              have HNX := Lib.hid hnx
              have HG := Lib.hid hg
              have HLB : Hid (Ss.length + 1 ≤ maxLen ∧ (Ss.length + 1) * 1 ≤ 140737488355328) := Lib.hid (by unfold maxLen; omega)
              have HSZR : Hid (w2.heap.size + 1 ≤ wr.heap.size) := Lib.hid (by have := A.out.below.size; simpa using this)
              have hwr : IntKind.i64.wrap ((kk : Int) + 1) = ((kk + 1 : Nat) : Int) := by
                rw [show ((kk + 1 : Nat) : Int) = (kk : Int) + 1 by omega]
                exact wrap_small _ (by omega) (by omega)
              clear hbne hpp hB e4 e2 hx hbx hnx hSs hsl hy hg
              go_wp2_with (first | (at_builtin; refine wpList_append_fresh _ rfl _ _ 22 rfl (w2.heap.size + 1) 5 i0 (.int .u8 0) 1 1 Tryd.underlying22 hi hz0 hz1 hz2 rfl (by decide) u10 Ss.length _ rfl (A.out.own.alloc _) ⟨wr.heap.size, 0, none⟩ 1 1 [.int .u8 y.toNat] rfl rfl (new_cells wr #[.int .u8 y.toNat] _) (one_of _) HLB.out.1 HLB.out.2 (by have := HSZR.out; simp; omega) ?_; intro v3 w3 hv' hg' hf'; have H3 := Lib.hid (A.out.app (x := [y]) _ hv' hg'); clear hv' hg' hf'))
              go_roundg (bl.length - (kk + 1))
              case measure => have := HG.out; omega
              case rel => exact ⟨kk + 1, by omega, Nat.le_refl _, rfl, by rw [HNX.out]; exact H3⟩
            · obtain rfl : kk = bl.length := by omega
              have hltz : decide ((bl.length : Int) < (bl.length : Int)) = false := by simp
              rw [List.take_length] at A
              have hsl : (spcs bl).length ≤ 300 := by simp [spcs]; omega
              have hround := fun h => parse_round v bl HM.out HFITS.out (by omega) h
              have hmore := fun (h : (put v).length ≤ 16384) (h4 : 4 ≤ v.kind) (hc : ([32, 9, 10, 13] : List UInt8).contains (UInt8.ofNat more) = false) => parse_more v bl (UInt8.ofNat more) HM.out HFITS.out (by omega) h h4 hc
              rw [HMM.out] at hround hmore
              obtain ⟨Ss, hSs⟩ : ∃ l, spcs bl = l := ⟨_, rfl⟩
              rw [hSs] at A hround hmore hsl
              have HRN := Lib.hid (hround (by omega))
              have HMO := Lib.hid (hmore (by omega))
              have hown := A.out.own
              obtain ⟨go, hso, hgo⟩ := slice_of_own hown
              have HSZR : Hid (w2.heap.size + 1 ≤ wr.heap.size) := Lib.hid (by have := A.out.below.size; simpa using this)
              have hform : (Ss = [] ∧ u10 = .slice none 0 0) ∨ (∃ g cap, u10 = .slice (some ⟨g, 0, none⟩) Ss.length cap) := by
                rcases hown.2 with ⟨h1, h2⟩ | ⟨g, cap, cur, e, _⟩
                · exact .inl ⟨List.eq_nil_of_length_eq_zero h2, h1⟩
                · exact .inr ⟨g, cap, e⟩
              have hcp := copied_any go Ss u10 wr hso (fun n c' e => by
                rcases hform with ⟨_, h1⟩ | ⟨g, cap, h1⟩
                · rw [h1] at e; injection e with e1 e2 e3; exact e3.symm
                · rw [h1] at e; injection e with e1; cases e1) (by omega)
              have HCP := Lib.hid hcp
              have HOW := Lib.hid hown
              have hB2r := (((Below.refl w2.heap.size w2).alloc (Nat.le_refl _) (.cells #[.int .u8 32, .int .u8 9, .int .u8 10, .int .u8 13] 5)).trans (A.out.below.mono (Nat.le_succ _)))
              have HYR := Lib.hid (HY2.out.below hB2r HG2.out.2)
              have HG2R := Lib.hid (Nat.lt_of_lt_of_le HG2.out.2 hB2r.size)
              have HB2R := Lib.hid hB2r
              have HLB : Hid (Ss.length + m.length ≤ maxLen ∧ (Ss.length + m.length) * 1 ≤ 140737488355328) := Lib.hid (by unfold maxLen; omega)
              have HLB2 : Hid ((Ss ++ m).length + Ss.length ≤ maxLen ∧ ((Ss ++ m).length + Ss.length) * 1 ≤ 140737488355328) := Lib.hid (by rw [List.length_append]; unfold maxLen; omega)
              have HLB3 : Hid ((Ss ++ m ++ Ss).length + 1 ≤ maxLen ∧ ((Ss ++ m ++ Ss).length + 1) * 1 ≤ 140737488355328) := Lib.hid (by rw [List.length_append, List.length_append]; unfold maxLen; omega)
              clear hround hmore hso hgo hcp hown hB2r hSs hsl hg
              go_wp2_with fail
              refine HCP.out.mono ?_
              rintro e w3 ⟨v3, rfl, ho3, hf3⟩
              have HO3 := Lib.hid ho3
              have HB3 := Lib.hid hf3.below
              have HY3 := Lib.hid (HYR.out.below hf3.below HG2R.out)
              have HOW3 : Hid (∀ W, Below wr.heap.size wr W → W.ownsRow (w2.heap.size + 1) 5 1 u10 Ss.length (Lib.byteCells Ss)) := Lib.hid (fun W h => HOW.out.kept (below_grown h) (by cases u10.ownBlock <;> simp))
              clear ho3 hf3 HCP
              rcases hform with ⟨hs0, rfl⟩ | ⟨go', cap', rfl⟩
              all_goals
                try (have HN := Lib.hid hs0; have HN2 := Lib.hid hs0; clear hs0)
                try (have HSOME : Hid (0 ≤ cap') := Lib.hid (Nat.zero_le _))
                go_wp2_with (first | (at_builtin; have _t := HSOME; refine wpList_append_fresh _ rfl _ _ 22 rfl wr.heap.size 5 i0 (.int .u8 0) 1 1 Tryd.underlying22 hi hz0 hz1 hz2 rfl (by decide) v4 (Ss ++ m).length _ rfl H4.out ⟨go', 0, none⟩ Ss.length cap' (Lib.byteCells Ss) rfl (byteCells_len Ss) (World.ownsRow.cells (HOW3.out _ HB4.out) (g := go') rfl) (byteCells_one Ss) HLB2.out.1 HLB2.out.2 HB4.out.size ?_; intro v5 w5 hv' hg' hf'; have H5 : Hid (w5.ownsRow wr.heap.size 5 1 v5 (Ss ++ m ++ Ss).length (Lib.byteCells (Ss ++ m ++ Ss))) := Lib.hid (own_app hv'); have HB5 := Lib.hid (HB4.out.trans (Fr.of_grown H4.out HB4.out.size hg').below); clear hv' hg' hf' HSOME) | (at_builtin; have _t := HSOME; refine wpList_append_fresh _ rfl _ _ 22 rfl wr.heap.size 5 i0 (.int .u8 0) 1 1 Tryd.underlying22 hi hz0 hz1 hz2 rfl (by decide) v3 Ss.length _ rfl HO3.out ⟨g2, o2, none⟩ m.length c2 (Lib.byteCells m) rfl (byteCells_len m) (bytes_cells HY3.out) (byteCells_one m) HLB.out.1 HLB.out.2 HB3.out.size ?_; intro v4 w4 hv' hg' hf'; have H4 : Hid (w4.ownsRow wr.heap.size 5 1 v4 (Ss ++ m).length (Lib.byteCells (Ss ++ m))) := Lib.hid (own_app hv'); have HB4 := Lib.hid (HB3.out.trans (Fr.of_grown HO3.out HB3.out.size hg').below); clear hv' hg' hf') | (at_builtin; have _t := HN; refine wpList_append_fresh _ rfl _ _ 22 rfl wr.heap.size 5 i0 (.int .u8 0) 1 1 Tryd.underlying22 hi hz0 hz1 hz2 rfl (by decide) v3 Ss.length _ rfl HO3.out ⟨g2, o2, none⟩ m.length c2 (Lib.byteCells m) rfl (byteCells_len m) (bytes_cells HY3.out) (byteCells_one m) HLB.out.1 HLB.out.2 HB3.out.size ?_; intro v5 w5 hv' hg' hf'; have H5 : Hid (w5.ownsRow wr.heap.size 5 1 v5 (Ss ++ m ++ Ss).length (Lib.byteCells (Ss ++ m ++ Ss))) := Lib.hid (own_app_nil HN2.out hv'); have HB5 := Lib.hid (HB3.out.trans (Fr.of_grown HO3.out HB3.out.size hg').below); clear hv' hg' hf' HN) | (at_builtin; have _t := HN2; refine wpList_append_own_none rfl _ _ 22 rfl wr.heap.size 5 i0 1 Tryd.underlying22 hi v5 _ _ rfl H5.out rfl ?_))
                obtain ⟨L, hL⟩ : ∃ L, Ss ++ m ++ Ss = L := ⟨_, rfl⟩
                have hLne : L ≠ [] := by rw [← hL]; simp [HNE.out]
                have h5 := H5.out
                have hrn := HRN.out
                have hlb3 := HLB3.out
                have hmo := HMO.out
                rw [hL] at h5 hrn hlb3 hmo
                obtain ⟨g5, hs5, hg5⟩ := slice_of_own h5
                have hg5' := hg5 hLne
                have HBW5 := Lib.hid (HB2.out.trans ((HB2R.out.trans (HB5.out.mono HB2R.out.size)).mono HB2.out.size))
                have hp := parse_any g5 L v5 w5 hs5 hg5'.2 (HE.out.below HBW5.out HE.out.size)
                rw [hrn] at hp
                refine hp.mono ?_
                clear hp
                have HH5 := Lib.hid h5
                have HL3 := Lib.hid hlb3
                have HMO2 := Lib.hid hmo
                clear HRN HMO HLB3 H5 h5 hrn hlb3 hmo hL hLne hs5 hg5 hg5' HOW HOW3 HYR HG2R HLB HLB2 HO3 HY3
                rintro e w6 ⟨cs, rfl, hVu, hb6⟩
                obtain ⟨p3, c3, p4, c4, hcs, _, _, _, _⟩ := hVu.shape
                simp only [strv] at hcs
                subst hcs
                have HB6 := Lib.hid (hb6.alloc hb6.size (.cells #[.int .u8 v.kind, .int .i64 v.num, .string ⟨v.text.toArray⟩, .slice p3 v.kids.length c3, .slice p4 v.names.length c4] 27))
                have HZ6 : Hid ((w6.alloc (.cells #[.int .u8 v.kind, .int .i64 v.num, .string ⟨v.text.toArray⟩, .slice p3 v.kids.length c3, .slice p4 v.names.length c4] 27)).heap.size = w6.heap.size + 1) := Lib.hid (by simp)
                have HBU := Lib.hid (heap_alloc_new w6 (.cells #[.int .u8 v.kind, .int .i64 v.num, .string ⟨v.text.toArray⟩, .slice p3 v.kids.length c3, .slice p4 v.names.length c4] 27))
                have HU6 := Lib.hid (VAt.mono (ok' := fun k => k < w6.heap.size) (fun k hk => hk.2) _ _ (VAt.same (w' := (w6.alloc (.cells #[.int .u8 v.kind, .int .i64 v.num, .string ⟨v.text.toArray⟩, .slice p3 v.kids.length c3, .slice p4 v.names.length c4] 27))) (fun k hk => Below.heap_alloc _ _ _ hk.2) _ _ hVu))
                have HW6 := Lib.hid (HBW5.out.trans (HB6.out.mono HBW5.out.size))
                have HX6 := Lib.hid (HBY.out.trans ((HB12.out.trans ((HB2R.out.trans ((HB5.out.trans (HB6.out.mono HB5.out.size)).mono HB2R.out.size)).mono HB12.out.size)).mono HBY.out.size))
                have HZ56 := Lib.hid hb6.size
                obtain ⟨a0, a1, a2, a3, a4⟩ := (HBX.out _ HX6.out).cells
                obtain ⟨b0, b1, b2, b3, b4⟩ := (box_new w6 v p3 p4 c3 c4).cells
                clear hVu hb6
                go_wp2_with fail
                generalize (w6.alloc (.cells #[.int .u8 v.kind, .int .i64 v.num, .string ⟨v.text.toArray⟩, .slice p3 v.kids.length c3, .slice p4 v.names.length c4] 27)) = u6 at *
                have hok6 : ∀ k, ok k → k < w6.heap.size := fun k hk => by
                  have h1 := HOK.out k hk
                  have h2 := HBW5.out.size
                  have h3 := HZ56.out
                  omega
                have hp := same_any v v [.int .u8 v.kind, .int .i64 v.num, .string ⟨v.text.toArray⟩, .slice p3 v.kids.length c3, .slice p4 v.names.length c4] [.int .u8 v.kind, .int .i64 v.num, .string ⟨v.text.toArray⟩, .slice p v.kids.length c, .slice q v.names.length d] u6 (fun k => k < w6.heap.size) (fun k hk => by have := HZ6.out; omega) HU6.out (VAt.mono hok6 _ _ (VAt.same (fun k hk => HW6.out.block k (HOK.out k hk)) _ _ HV.out))
                rw [same_refl v] at hp
                refine hp.mono ?_
                clear hp a0 a1 a2 a3 a4 b0 b1 b2 b3 b4 hok6
                rintro e w7 ⟨rfl, hb7⟩
                have HB7 := Lib.hid (HW6.out.trans (hb7.mono HW6.out.size))
                have HX7 := Lib.hid (HX6.out.trans (hb7.mono HX6.out.size))
                have HB57 := Lib.hid (HB6.out.trans (hb7.mono HB6.out.size))
                clear hb7
                obtain ⟨a0, a1, a2, a3, a4⟩ := (HBX.out _ HX7.out).cells
                have hkr := may_kind HM.out
                have hq : decide (v.kind < 4) = true ∨ (decide (v.kind < 4) = false ∧ ((more : Int) == 32) = true) ∨ (decide (v.kind < 4) = false ∧ ((more : Int) == 32) = false ∧ ((more : Int) == 9) = true) ∨ (decide (v.kind < 4) = false ∧ ((more : Int) == 32) = false ∧ ((more : Int) == 9) = false ∧ ((more : Int) == 10) = true) ∨
                    (decide (v.kind < 4) = false ∧ ((more : Int) == 32) = false ∧ ((more : Int) == 9) = false ∧ ((more : Int) == 10) = false ∧ ((more : Int) == 13) = true) ∨ (decide (v.kind < 4) = false ∧ ((more : Int) == 32) = false ∧ ((more : Int) == 9) = false ∧ ((more : Int) == 10) = false ∧ ((more : Int) == 13) = false) := by
                  simp only [decide_eq_true_eq, decide_eq_false_iff_not, beq_iff_eq, beq_eq_false_iff_ne]
                  omega
                rcases hq with h1 | ⟨h1, h2⟩ | ⟨h1, h2, h3⟩ | ⟨h1, h2, h3, h4⟩ | ⟨h1, h2, h3, h4, h5⟩ | ⟨h1, h2, h3, h4, h5⟩
                · go_wp2_with (first | (go_at_call 6; refine (works_any _ (HE.out.below HB7.out HE.out.size) (HD.out.below HB7.out HDL.out)).mono ?_; rintro e wz ⟨rfl, hbz⟩; have HBZ := Lib.hid (HB7.out.trans (hbz.mono HB7.out.size)); clear hbz))
                  go_ret
                  exact ⟨rfl, HBZ.out⟩
                · go_wp2_with (first | (go_at_call 6; refine (works_any _ (HE.out.below HB7.out HE.out.size) (HD.out.below HB7.out HDL.out)).mono ?_; rintro e wz ⟨rfl, hbz⟩; have HBZ := Lib.hid (HB7.out.trans (hbz.mono HB7.out.size)); clear hbz))
                  go_ret
                  exact ⟨rfl, HBZ.out⟩
                · go_wp2_with (first | (go_at_call 6; refine (works_any _ (HE.out.below HB7.out HE.out.size) (HD.out.below HB7.out HDL.out)).mono ?_; rintro e wz ⟨rfl, hbz⟩; have HBZ := Lib.hid (HB7.out.trans (hbz.mono HB7.out.size)); clear hbz))
                  go_ret
                  exact ⟨rfl, HBZ.out⟩
                · go_wp2_with (first | (go_at_call 6; refine (works_any _ (HE.out.below HB7.out HE.out.size) (HD.out.below HB7.out HDL.out)).mono ?_; rintro e wz ⟨rfl, hbz⟩; have HBZ := Lib.hid (HB7.out.trans (hbz.mono HB7.out.size)); clear hbz))
                  go_ret
                  exact ⟨rfl, HBZ.out⟩
                · go_wp2_with (first | (go_at_call 6; refine (works_any _ (HE.out.below HB7.out HE.out.size) (HD.out.below HB7.out HDL.out)).mono ?_; rintro e wz ⟨rfl, hbz⟩; have HBZ := Lib.hid (HB7.out.trans (hbz.mono HB7.out.size)); clear hbz))
                  go_ret
                  exact ⟨rfl, HBZ.out⟩
                · have hpm := HMO2.out (by have := of_decide_eq_false h1; omega) (more_blank more hmore h2 h3 h4 h5)
                  have HPM := Lib.hid hpm
                  have HO7 := Lib.hid (HH5.out.kept (below_grown HB57.out) (by cases v5.ownBlock <;> simp))
                  have HSZ7 := Lib.hid (Nat.le_trans HB5.out.size HB57.out.size)
                  have HBWR := Lib.hid (Nat.le_trans HB2.out.size HB2R.out.size)
                  clear hpm
                  go_wp2_with (first | (at_builtin; refine wpList_append_fresh _ rfl _ _ 22 rfl wr.heap.size 5 i0 (.int .u8 0) 1 1 Tryd.underlying22 hi hz0 hz1 hz2 rfl (by decide) v5 L.length _ rfl (HO7.out.alloc _) ⟨w7.heap.size, 0, none⟩ 1 1 [.int .u8 more] rfl rfl (new_cells w7 #[.int .u8 more] _) (one_of _) HL3.out.1 HL3.out.2 (by have := HSZ7.out; simp; omega) ?_; intro v8 w8 hv' hg' hf'; have H8 := Lib.hid (own_app_more hmore hv'); have HB8 := Lib.hid (HB7.out.trans (grown_below HO7.out HSZ7.out HBWR.out hg')); clear hv' hg' hf'))
                  obtain ⟨g8, hs8, hg8⟩ := slice_of_own H8.out
                  have hg8' := hg8 (by simp)
                  have hp := parse_any g8 (L ++ [UInt8.ofNat more]) v8 w8 hs8 hg8'.2 (HE.out.below HB8.out HE.out.size)
                  rw [HPM.out] at hp
                  refine hp.mono ?_
                  clear hp hs8 hg8 hg8' a0 a1 a2 a3 a4
                  rintro e w9 ⟨cs, rfl, hVn, hb9⟩
                  obtain ⟨p5, c5, p6, c6, hcs, _, _, _, _⟩ := hVn.shape
                  replace hcs : cs = [.int .u8 0, .int .i64 0, .string ⟨#[]⟩, .slice p5 0 c5, .slice p6 0 c6] := hcs
                  subst hcs
                  have HB9 := Lib.hid (HB8.out.trans ((hb9.alloc hb9.size (.cells #[.int .u8 0, .int .i64 0, .string ⟨#[]⟩, .slice p5 0 c5, .slice p6 0 c6] 27)).mono HB8.out.size))
                  clear hVn hb9
                  go_wp2_with (first | (go_at_call 6; refine (works_any _ (HE.out.below HB9.out HE.out.size) (HD.out.below HB9.out HDL.out)).mono ?_; rintro e wz ⟨rfl, hbz⟩; have HBZ := Lib.hid (HB9.out.trans (hbz.mono HB9.out.size)); clear hbz))
                  go_ret
                  exact ⟨rfl, HBZ.out⟩
end Go.Proofs.YtcmlppknfbndaaaDoor
