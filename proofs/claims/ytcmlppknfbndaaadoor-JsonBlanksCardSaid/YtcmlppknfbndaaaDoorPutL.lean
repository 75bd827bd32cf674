/-
  json's put, of a list and of an object. Conditions: each contract's own.
-/
import Derived.Test.YtcmlppknfbndaaaDoorPutLaw
namespace Go.Proofs.YtcmlppknfbndaaaDoor
open Go.RowKit Js

/-- The bytes so far, and the value's own box. -/
structure PIn (B n : Nat) (xs : List Value) (w : World) (N : Nat) (b0 b1 b2 b3 b4 : Value) (a : List UInt8) (sv : Value) (wr : World) : Prop where
  own : wr.ownsRow B 5 1 sv (n + a.length) (xs ++ Lib.byteCells a)
  fr : Fr B w wr
  box : Five wr N b0 b1 b2 b3 b4
theorem five_others {w w' : World} {g : Nat} {a b c d e : Value} (h : Five w g a b c d e) (k : Lib.OthersKept 5 none w w') : Five w' g a b c d e :=
  k g _ h (by simp) (fun c fz e => by injection e with e1 e2; exact absurd e2 (by decide))
/-- Behind more bytes. -/
theorem PIn.app {B n : Nat} {xs : List Value} {w : World} {N : Nat} {b0 b1 b2 b3 b4 : Value} {a b : List UInt8} {sv sv' : Value} {wr w' : World} (h : PIn B n xs w N b0 b1 b2 b3 b4 a sv wr)
    (ho : w'.ownsRow B 5 1 sv' (n + a.length + b.length) ((xs ++ Lib.byteCells a) ++ Lib.byteCells b)) (hf : Fr B wr w') : PIn B n xs w N b0 b1 b2 b3 b4 (a ++ b) sv' w' := by
  refine ⟨?_, h.fr.trans hf, five_others h.box hf.others⟩
  rw [byteCells_append, List.length_append, ← Nat.add_assoc, ← List.append_assoc]
  exact ho
theorem PIn.alloc {B n : Nat} {xs : List Value} {w : World} {N : Nat} {b0 b1 b2 b3 b4 : Value} {a : List UInt8} {sv : Value} {wr : World} (h : PIn B n xs w N b0 b1 b2 b3 b4 a sv wr) (hB : B ≤ wr.heap.size) (o : Obj) : PIn B n xs w N b0 b1 b2 b3 b4 a sv (wr.alloc o) := by
  refine ⟨h.own.alloc o, h.fr.alloc hB o, h.box.same (Below.heap_alloc _ _ _ h.box.lt)⟩
/-- A kid's own call. -/
theorem put_kid {B n : Nat} {xs : List Value} {w : World} {N : Nat} {b0 b1 b2 b3 b4 : Value} {a : List UInt8} {sv : Value} {W : World} {ok : Nat → Prop} {v : V} {nest : Int} (h : PIn B n xs w N b0 b1 b2 b3 b4 a sv W) (hv : PutOk v) (cs : List Value) (hV : VAt w ok v cs) (hok : ∀ k, ok k → k < B)
    (hfit : FitV v) (hmay : may nest v = true) (hE : Env w) (hD : Deb w) (hNG : NG ≤ B) (hB8 : 7 < B) (hBw : B ≤ w.heap.size) (hlen : n + a.length + 6 * (put v).length + 21 ≤ 140737488355328) :
    Calls Tryd.prog 19 #[sv, .agg cs.toArray] W fun e w' => ∃ v', e = .returned v' ∧ PIn B n xs w N b0 b1 b2 b3 b4 (a ++ put v) v' w' := by
  refine (hv cs W ok B (n + a.length) sv (xs ++ Lib.byteCells a) nest hok (VAt.same (fun k hk => h.fr.below.block k (hok k hk)) _ _ hV) hfit hmay (hE.below h.fr.below hNG) (hD.below h.fr.below hB8) hNG hB8 (Nat.le_trans hBw h.fr.below.size) h.own (by omega)).mono ?_
  rintro e w' ⟨v', rfl, ho, hf⟩
  exact ⟨v', rfl, h.app ho hf⟩
theorem new_cells1 (w : World) (o : Obj) (arr : Array Value) (t : TypeId) : ∀ j u, arr.toList[j]? = some u → ((w.alloc o).alloc (.cells arr t)).cell? ((⟨w.heap.size + 1, 0, none⟩ : Addr).add j) = some u := by
  have := new_cells (w.alloc o) arr t
  simpa using this

set_option maxHeartbeats 4000000 in
set_option maxRecDepth 100000 in
theorem put_list (m : Int) (t : List UInt8) (ks : List V) (ns : List (List UInt8)) (hk : ∀ v ∈ ks, PutOk v) : PutOk (.mk 4 m t ks ns) := by
  intro cs w ok B n sv xs nest hok hV hfit hmay hE hD hNG hB8 hBw hown hlen
  obtain ⟨kv, nv, css, rfl, hall, ⟨p, c, rfl, hc1, hc2, hkr⟩, ⟨q, d, rfl, hd1, hd2, hnr⟩⟩ := hV
  obtain ⟨R, hR⟩ : ∃ R, put (.mk 4 m t ks ns) = R := ⟨_, rfl⟩
  rw [hR] at hlen ⊢
  rw [put] at hR
  obtain ⟨i0, hi, hz0, hz1, hz2⟩ := info_parts info8
  have HR : Hid ([91] ++ putKids false true ks ns ++ [93] = R) := Lib.hid hR
  have HK := Lib.hid hk
  have HOWA : Hid (∀ o o', ((w.alloc o).alloc o').ownsRow B 5 1 sv n xs) := Lib.hid (fun o o' => (hown.alloc o).alloc o')
  have HFRA : Hid (∀ o o', Fr B w ((w.alloc o).alloc o')) := Lib.hid (fun o o' => ((Fr.refl B w).alloc hBw o).alloc (by simp; omega) o')
  have HBA : Hid (∀ o o', B ≤ ((w.alloc o).alloc o').heap.size) := Lib.hid (fun o o' => by simp; omega)
  have HFIT := Lib.hid hfit
  have HMAY := Lib.hid hmay
  have HLEN := Lib.hid hlen
  have HALL := Lib.hid hall
  have HKR := Lib.hid hkr
  have HOK := Lib.hid hok
  have HE := Lib.hid hE
  have HD := Lib.hid hD
  have HBW := Lib.hid hBw
  have HC := Lib.hid (And.intro hc1 hc2)
  have HN2 : Hid (n + 1 ≤ maxLen ∧ (n + 1) * 1 ≤ 140737488355328) := Lib.hid (by unfold maxLen; omega)
  have HBX : Hid (Five ((w.alloc (Obj.cells #[Value.int IntKind.u8 4, Value.int IntKind.i64 m, Value.string { data := t.toArray }, Value.slice p ks.length c, Value.slice q ns.length d] 27)).alloc (Obj.cells #[.int .u8 91] 5)) w.heap.size (.int .u8 4) (.int .i64 m) (.string ⟨t.toArray⟩) (.slice p ks.length c) (.slice q ns.length d)) :=
    Lib.hid (Five.same (w := w.alloc (Obj.cells #[Value.int IntKind.u8 4, Value.int IntKind.i64 m, Value.string { data := t.toArray }, Value.slice p ks.length c, Value.slice q ns.length d] 27)) (heap_alloc_new w _) (Below.heap_alloc _ _ _ (by simp)))
  unfold strv
  clear hR hk hown hfit hmay hlen hall hkr hnr hok hE hD hBw hc1 hc2 hd1 hd2
  go_enter Tryd.func19, Tryd.ntmps19
  go_wp2_with (first | (at_builtin; refine wpList_append_fresh _ rfl _ _ 22 rfl B 5 i0 (.int .u8 0) 1 1 Tryd.underlying22 hi hz0 hz1 hz2 rfl (by decide) sv n xs rfl (HOWA.out _ _) ⟨w.heap.size + 1, 0, none⟩ 1 1 [.int .u8 91] rfl rfl (new_cells1 w _ #[.int .u8 91] _) (one_of _) HN2.out.1 HN2.out.2 (HBA.out _ _) ?_; intro v1 w1 hv' hg' hf'; have HP1 := Lib.hid (PIn.mk (a := [91]) hv' ((HFRA.out _ _).trans (Fr.of_grown (HOWA.out _ _) (HBA.out _ _) hg')) (five_others HBX.out (Fr.of_grown (HOWA.out _ _) (HBA.out _ _) hg').others)); obtain ⟨a0, a1, a2, a3, a4⟩ := HP1.out.box.cells; clear hv' hg' hf'))
  clear a0 a1 a2 a3 a4
  go_loopg [0, 44] ks.length (fun gg s0 s44 wr => ∃ kk : Nat, kk ≤ ks.length ∧ ks.length - kk ≤ gg ∧ s44 = .int .i64 kk ∧ Hid (PIn B n xs w w.heap.size (.int .u8 4) (.int .i64 m) (.string ⟨t.toArray⟩) (.slice p ks.length c) (.slice q ns.length d) (91 :: putKids false true (ks.take kk) ns) s0 wr))
  case atStart => exact ⟨0, Nat.zero_le _, by omega, rfl, by rw [List.take_zero, putKids]; exact HP1⟩
  case round =>
    clear HP1
    obtain ⟨kk, hkk, hg, rfl, P⟩ := hrel
    obtain ⟨a0, a1, a2, a3, a4⟩ := P.out.box.cells
    have hNlt := P.out.box.lt
    by_cases hlt : kk < ks.length
    · have hltz : decide ((kk : Int) < (ks.length : Int)) = true := by simp only [decide_eq_true_eq]; omega
      have hl := HALL.out.lengths
      have h1 : kk < css.length := by rw [hl.1]; exact hlt
      obtain ⟨g, o, rfl, hg', hcells⟩ := HKR.out (by omega)
      have hVk := VAll.get ks css HALL.out kk h1 hlt
      have hPk := HK.out ks[kk] (List.getElem_mem hlt)
      have hFk := FitAll.get ks HFIT.out.2.2.2.2 ks[kk] (List.getElem_mem hlt)
      have hMk : may (nest - 1) ks[kk] = true := by
        have h := HMAY.out
        unfold may at h
        simp only [Bool.and_eq_true] at h
        have h2 := h.2
        simp at h2
        exact mayAll_get _ ks h2.2 _ (List.getElem_mem hlt)
      have hc : ∀ i u, css[kk][i]? = some u → wr.cell? ⟨g, o + kk * 5 + i, none⟩ = some u := fun i u hu =>
        (P.out.fr.below.cell (p := ⟨g, o + kk * 5 + i, none⟩) (HOK.out g hg')).trans (row_five hcells hl.2 kk h1 i u hu)
      have hnext := putKids_next false ks ns kk hlt
      have htl := putKids_take_len false (kk + 1) true ks ns
      have hRl : R.length = (putKids false true ks ns).length + 2 := by rw [← HR.out]; simp
      obtain ⟨v, hv⟩ : ∃ v, ks[kk] = v := ⟨_, rfl⟩
      rw [hv] at hVk hPk hFk hMk hnext
      obtain ⟨p5, c5, p6, c6, hcs, _, _, _, _⟩ := hVk.shape
      simp only [strv] at hcs
      rw [hcs] at hc hVk
      have c0 := hc 0 _ rfl
      have c1 := hc 1 _ rfl
      have c2 := hc 2 _ rfl
      have c3 := hc 3 _ rfl
      have c4 := hc 4 _ rfl
      simp only [Nat.add_zero] at c0
      obtain ⟨a, ha⟩ : ∃ a, 91 :: putKids false true (ks.take kk) ns = a := ⟨_, rfl⟩
      rw [ha] at P
      have hwr : IntKind.i64.wrap ((kk : Int) + 1) = ((kk + 1 : Nat) : Int) := by
        rw [show ((kk + 1 : Nat) : Int) = (kk : Int) + 1 by omega]
        exact wrap_small _ (by omega) (by have := HC.out; omega)
      have hBr : B ≤ wr.heap.size := Nat.le_trans HBW.out P.out.fr.below.size
      have HBR := Lib.hid hBr
      have HKB : Hid (Five (wr.alloc (Obj.cells #[Value.int IntKind.u8 v.kind, Value.int IntKind.i64 v.num, Value.string { data := v.text.toArray }, Value.slice p5 v.kids.length c5, Value.slice p6 v.names.length c6] 27)) wr.heap.size (.int .u8 v.kind) (.int .i64 v.num) (.string ⟨v.text.toArray⟩) (.slice p5 v.kids.length c5) (.slice p6 v.names.length c6)) := Lib.hid (heap_alloc_new wr _)
      have HG := Lib.hid hg
      have HPA := Lib.hid (fun o => P.out.alloc hBr o)
      by_cases hk0 : kk = 0
      · have htz : decide ((0 : Int) < (kk : Int)) = false := by simp only [decide_eq_false_iff_not]; omega
        have htn : decide (0 < kk) = false := by simp only [decide_eq_false_iff_not]; omega
        have HNX : Hid (91 :: putKids false true (ks.take (kk + 1)) ns = a ++ put v) := Lib.hid (by rw [hnext, ← ha, hk0]; simp)
        have hlen : a.length + (put v).length ≤ R.length := by
          have := congrArg List.length HNX.out
          rw [List.length_append, List.length_cons] at this
          omega
        have hHL := HLEN.out
        have HCALL := Lib.hid (fun o => put_kid (HPA.out o) hPk _ hVk HOK.out hFk hMk HE.out HD.out hNG hB8 HBW.out (by omega))
        clear hcells hg' hVk hPk hFk hMk hc hnext htl hRl hv hcs ha hBr hg hlen hHL hl hk0
        go_wp2_with (first | (go_at_call 19; refine (HCALL.out _).mono ?_; rintro e w2 ⟨v2, rfl, hp2⟩; have HP2 := Lib.hid hp2; clear hp2))
        go_roundg (ks.length - (kk + 1))
        case measure => have := HG.out; omega
        case rel => exact ⟨kk + 1, by omega, Nat.le_refl _, rfl, by rw [HNX.out]; exact HP2⟩
      · have hpos : 0 < kk := by omega
        have HNX : Hid (91 :: putKids false true (ks.take (kk + 1)) ns = a ++ [44] ++ put v) := Lib.hid (by rw [hnext, ← ha, if_neg hk0]; simp)
        have hlen : a.length + 1 + (put v).length ≤ R.length := by
          have := congrArg List.length HNX.out
          rw [List.length_append, List.length_append, List.length_cons] at this
          simp only [List.length_cons, List.length_nil] at this
          omega
        have hHL := HLEN.out
        have HN3 : Hid (n + a.length + 1 ≤ maxLen ∧ (n + a.length + 1) * 1 ≤ 140737488355328) := Lib.hid (by unfold maxLen; omega)
        have HCALL := Lib.hid (fun s W (h : PIn B n xs w w.heap.size (.int .u8 4) (.int .i64 m) (.string ⟨t.toArray⟩) (.slice (some ⟨g, o, none⟩) ks.length c) (.slice q ns.length d) (a ++ [44]) s W) => put_kid h hPk _ hVk HOK.out hFk hMk HE.out HD.out hNG hB8 HBW.out (by simp only [List.length_append, List.length_cons, List.length_nil]; omega))
        clear hcells hg' hVk hPk hFk hMk hc hnext htl hRl hv hcs ha hBr hg hlen hHL hl hk0
        go_wp2_with (first | (go_at_call 19; refine (HCALL.out _ _ HP2.out).mono ?_; rintro e w3 ⟨v3, rfl, hp3⟩; have HP3 := Lib.hid hp3; clear hp3) | (at_builtin; refine wpList_append_fresh _ rfl _ _ 22 rfl B 5 i0 (.int .u8 0) 1 1 Tryd.underlying22 hi hz0 hz1 hz2 rfl (by decide) u0 (n + a.length) _ rfl ((HPA.out _).own.alloc _) ⟨wr.heap.size + 1, 0, none⟩ 1 1 [.int .u8 44] rfl rfl (new_cells1 wr _ #[.int .u8 44] _) (one_of _) HN3.out.1 HN3.out.2 (by have := HBR.out; simp; omega) ?_; intro v2 w2 hv' hg' hf'; have HF2 := Lib.hid (Fr.of_grown ((HPA.out _).own.alloc _) (by have := HBR.out; simp; omega) hg'); have HP2 := Lib.hid (((HPA.out _).alloc (by have := HBR.out; simp; omega) _).app (b := [44]) hv' HF2.out); have hbx := five_others (HKB.out.same (Below.heap_alloc _ (.cells #[.int .u8 44] 5) _ (by simp))) HF2.out.others; obtain ⟨k0, k1, k2, k3, k4⟩ := hbx.cells; obtain ⟨q0, q1, q2, q3, q4⟩ := HP2.out.box.cells; clear hv' hg' hf' hbx))
        go_roundg (ks.length - (kk + 1))
        case measure => have := HG.out; omega
        case rel => exact ⟨kk + 1, by omega, Nat.le_refl _, rfl, by rw [HNX.out]; exact HP3⟩
    · have hltz : decide ((kk : Int) < (ks.length : Int)) = false := by simp only [decide_eq_false_iff_not]; omega
      obtain rfl : kk = ks.length := by omega
      have hRl : R.length = (putKids false true ks ns).length + 2 := by rw [← HR.out]; simp
      obtain ⟨a, ha⟩ : ∃ a, 91 :: putKids false true (ks.take ks.length) ns = a := ⟨_, rfl⟩
      rw [ha] at P
      have HF : Hid (R = a ++ [93]) := by
        rw [← HR.out, ← ha, List.take_length]
        exact Lib.hid rfl
      have hlen : R.length = a.length + 1 := by rw [HF.out]; simp
      have hHL := HLEN.out
      have HN3 : Hid (n + a.length + 1 ≤ maxLen ∧ (n + a.length + 1) * 1 ≤ 140737488355328) := Lib.hid (by unfold maxLen; omega)
      have hBr : B ≤ wr.heap.size := Nat.le_trans HBW.out P.out.fr.below.size
      have HPA := Lib.hid (fun o => P.out.alloc hBr o)
      have HBR : Hid (∀ o, B ≤ (wr.alloc o).heap.size) := Lib.hid (fun o => by simp; omega)
      clear ha hRl hlen hHL hBr
      go_wp2_with (first | (at_builtin; refine wpList_append_fresh _ rfl _ _ 22 rfl B 5 i0 (.int .u8 0) 1 1 Tryd.underlying22 hi hz0 hz1 hz2 rfl (by decide) u0 (n + a.length) _ rfl (HPA.out _).own ⟨wr.heap.size, 0, none⟩ 1 1 [.int .u8 93] rfl rfl (new_cells wr #[.int .u8 93] _) (one_of _) HN3.out.1 HN3.out.2 (HBR.out _) ?_; intro v2 w2 hv' hg' hf'; have HF2 := Lib.hid (Fr.of_grown (HPA.out _).own (HBR.out _) hg'); have HP2 := Lib.hid ((HPA.out _).app (b := [93]) hv' HF2.out); clear hv' hg' hf'))
      go_ret
      refine ⟨v2, rfl, ?_, HP2.out.fr⟩
      rw [HF.out]; exact HP2.out.own
end Go.Proofs.YtcmlppknfbndaaaDoor
