/-
  json's put, of an object. Conditions: each contract's own.
-/
import Derived.Test.YtcmlppknfbndaaaDoorPutL
namespace Go.Proofs.YtcmlppknfbndaaaDoor
open Go.RowKit Js

/-- A name's own call. -/
theorem put_name {B n : Nat} {xs : List Value} {w : World} {N : Nat} {b0 b1 b2 b3 b4 : Value} {a : List UInt8} {sv : Value} {W : World} (h : PIn B n xs w N b0 b1 b2 b3 b4 a sv W) (s : List UInt8) (hD : Deb w) (hB8 : 7 < B) (hBw : B ≤ w.heap.size)
    (hs : s.length ≤ 140737488355328) (hlen : n + a.length + 6 * s.length + 2 ≤ 140737488355328) :
    Calls Tryd.prog 34 #[sv, .string ⟨s.toArray⟩] W fun e w' => ∃ v', e = .returned v' ∧ PIn B n xs w N b0 b1 b2 b3 b4 (a ++ Js.quoted s) v' w' ∧ Fr B W w' := by
  have hBW := Nat.le_trans hBw h.fr.below.size
  refine (quoted_any B (n + a.length) sv s (xs ++ Lib.byteCells a) W h.own hBW hs hlen (hD.below h.fr.below hB8) hB8).mono ?_
  rintro e w' ⟨v', rfl, ho, hg, _⟩
  have hf := Fr.of_grown h.own hBW hg
  exact ⟨v', rfl, h.app ho hf, hf⟩

set_option maxHeartbeats 4000000 in
set_option maxRecDepth 100000 in
theorem put_object (m : Int) (t : List UInt8) (ks : List V) (ns : List (List UInt8)) (hk : ∀ v ∈ ks, PutOk v) : PutOk (.mk 5 m t ks ns) := by
  intro cs w ok B n sv xs nest hok hV hfit hmay hE hD hNG hB8 hBw hown hlen
  obtain ⟨kv, nv, css, rfl, hall, ⟨p, c, rfl, hc1, hc2, hkr⟩, ⟨q, d, rfl, hd1, hd2, hnr⟩⟩ := hV
  obtain ⟨R, hR⟩ : ∃ R, put (.mk 5 m t ks ns) = R := ⟨_, rfl⟩
  rw [hR] at hlen ⊢
  rw [put] at hR
  obtain ⟨i0, hi, hz0, hz1, hz2⟩ := info_parts info8
  have HR : Hid ([123] ++ putKids true true ks ns ++ [125] = R) := Lib.hid hR
  have HK := Lib.hid hk
  have HOWA : Hid (∀ o o', ((w.alloc o).alloc o').ownsRow B 5 1 sv n xs) := Lib.hid (fun o o' => (hown.alloc o).alloc o')
  have HFRA : Hid (∀ o o', Fr B w ((w.alloc o).alloc o')) := Lib.hid (fun o o' => ((Fr.refl B w).alloc hBw o).alloc (by simp; omega) o')
  have HBA : Hid (∀ o o', B ≤ ((w.alloc o).alloc o').heap.size) := Lib.hid (fun o o' => by simp; omega)
  have HFIT := Lib.hid hfit
  have HMAY := Lib.hid hmay
  have HLEN := Lib.hid hlen
  have HALL := Lib.hid hall
  have HKR := Lib.hid hkr
  have HNR := Lib.hid hnr
  have HNC := Lib.hid (And.intro hd1 hd2)
  have HNL : Hid (ns.length = ks.length) := Lib.hid (by
    have h1 := hmay
    unfold may at h1
    rw [bare_eq, Bool.and_eq_true] at h1
    have h2 := h1.1
    unfold bareN at h2
    simp only [decide_eq_true_eq] at h2
    simpa using h2.2.2.2)
  have HOK := Lib.hid hok
  have HE := Lib.hid hE
  have HD := Lib.hid hD
  have HBW := Lib.hid hBw
  have HC := Lib.hid (And.intro hc1 hc2)
  have HN2 : Hid (n + 1 ≤ maxLen ∧ (n + 1) * 1 ≤ 140737488355328) := Lib.hid (by unfold maxLen; omega)
  have HBX : Hid (Five ((w.alloc (Obj.cells #[Value.int IntKind.u8 5, Value.int IntKind.i64 m, Value.string { data := t.toArray }, Value.slice p ks.length c, Value.slice q ns.length d] 27)).alloc (Obj.cells #[.int .u8 123] 5)) w.heap.size (.int .u8 5) (.int .i64 m) (.string ⟨t.toArray⟩) (.slice p ks.length c) (.slice q ns.length d)) :=
    Lib.hid (Five.same (w := w.alloc (Obj.cells #[Value.int IntKind.u8 5, Value.int IntKind.i64 m, Value.string { data := t.toArray }, Value.slice p ks.length c, Value.slice q ns.length d] 27)) (heap_alloc_new w _) (Below.heap_alloc _ _ _ (by simp)))
  unfold strv
  clear hR hk hown hfit hmay hlen hall hkr hnr hok hE hD hBw hc1 hc2 hd1 hd2
  go_enter Tryd.func19, Tryd.ntmps19
  go_wp2_with (first | (at_builtin; refine wpList_append_fresh _ rfl _ _ 22 rfl B 5 i0 (.int .u8 0) 1 1 Tryd.underlying22 hi hz0 hz1 hz2 rfl (by decide) sv n xs rfl (HOWA.out _ _) ⟨w.heap.size + 1, 0, none⟩ 1 1 [.int .u8 123] rfl rfl (new_cells1 w _ #[.int .u8 123] _) (one_of _) HN2.out.1 HN2.out.2 (HBA.out _ _) ?_; intro v1 w1 hv' hg' hf'; have HP1 := Lib.hid (PIn.mk (a := [123]) hv' ((HFRA.out _ _).trans (Fr.of_grown (HOWA.out _ _) (HBA.out _ _) hg')) (five_others HBX.out (Fr.of_grown (HOWA.out _ _) (HBA.out _ _) hg').others)); obtain ⟨a0, a1, a2, a3, a4⟩ := HP1.out.box.cells; clear hv' hg' hf'))
  clear a0 a1 a2 a3 a4
  go_loopg [0, 44] ks.length (fun gg s0 s44 wr => ∃ kk : Nat, kk ≤ ks.length ∧ ks.length - kk ≤ gg ∧ s44 = .int .i64 kk ∧ Hid (PIn B n xs w w.heap.size (.int .u8 5) (.int .i64 m) (.string ⟨t.toArray⟩) (.slice p ks.length c) (.slice q ns.length d) (123 :: putKids true true (ks.take kk) ns) s0 wr))
  case atStart => exact ⟨0, Nat.zero_le _, by omega, rfl, by rw [List.take_zero, putKids]; exact HP1⟩
  case round =>
    clear HP1
    obtain ⟨kk, hkk, hg, rfl, P⟩ := hrel
    obtain ⟨a0, a1, a2, a3, a4⟩ := P.out.box.cells
    have hNlt := P.out.box.lt
    by_cases hlt : kk < ks.length
    · have hltz : decide ((kk : Int) < (ks.length : Int)) = true := by simp only [decide_eq_true_eq]; omega
      have hl := HALL.out.lengths
      have h1 : kk < css.length := by rw [hl.1]; exact hlt
      obtain ⟨g, o, rfl, hg', hcells⟩ := HKR.out (by omega)
      have hVk := VAll.get ks css HALL.out kk h1 hlt
      have hPk := HK.out ks[kk] (List.getElem_mem hlt)
      have hFk := FitAll.get ks HFIT.out.2.2.2.2 ks[kk] (List.getElem_mem hlt)
      have hMk : may (nest - 1) ks[kk] = true := by
        have h := HMAY.out
        unfold may at h
        simp only [Bool.and_eq_true] at h
        have h2 := h.2
        simp at h2
        exact mayAll_get _ ks h2.2 _ (List.getElem_mem hlt)
      have hc : ∀ i u, css[kk][i]? = some u → wr.cell? ⟨g, o + kk * 5 + i, none⟩ = some u := fun i u hu =>
        (P.out.fr.below.cell (p := ⟨g, o + kk * 5 + i, none⟩) (HOK.out g hg')).trans (row_five hcells hl.2 kk h1 i u hu)
      have hnl : kk < ns.length := by rw [HNL.out]; exact hlt
      obtain ⟨g2, o2, rfl, hg2', hcells2⟩ := HNR.out (by omega)
      obtain ⟨s, hs⟩ : ∃ s, ns[kk] = s := ⟨_, rfl⟩
      have hsg : ns.getD kk [] = s := by rw [← hs]; simp [List.getD, hnl]
      have hname : wr.cell? ⟨g2, o2 + kk, none⟩ = some (.string ⟨s.toArray⟩) := by
        have h1 := hcells2 kk (strv ns[kk]) (by simp [strs, hnl])
        rw [hs] at h1
        exact (P.out.fr.below.cell (p := ⟨g2, o2 + kk, none⟩) (HOK.out g2 hg2')).trans h1
      have hnext := putKids_next true ks ns kk hlt
      have htl := putKids_take_len true (kk + 1) true ks ns
      have hRl : R.length = (putKids true true ks ns).length + 2 := by rw [← HR.out]; simp
      obtain ⟨v, hv⟩ : ∃ v, ks[kk] = v := ⟨_, rfl⟩
      rw [hv] at hVk hPk hFk hMk hnext
      obtain ⟨p5, c5, p6, c6, hcs, _, _, _, _⟩ := hVk.shape
      simp only [strv] at hcs
      rw [hcs] at hc hVk
      have c0 := hc 0 _ rfl
      have c1 := hc 1 _ rfl
      have c2 := hc 2 _ rfl
      have c3 := hc 3 _ rfl
      have c4 := hc 4 _ rfl
      simp only [Nat.add_zero] at c0
      obtain ⟨a, ha⟩ : ∃ a, 123 :: putKids true true (ks.take kk) ns = a := ⟨_, rfl⟩
      rw [ha] at P
      have hwr : IntKind.i64.wrap ((kk : Int) + 1) = ((kk + 1 : Nat) : Int) := by
        rw [show ((kk + 1 : Nat) : Int) = (kk : Int) + 1 by omega]
        exact wrap_small _ (by omega) (by have := HC.out; omega)
      have hBr : B ≤ wr.heap.size := Nat.le_trans HBW.out P.out.fr.below.size
      have HBR := Lib.hid hBr
      have HKB : Hid (Five (wr.alloc (Obj.cells #[Value.int IntKind.u8 v.kind, Value.int IntKind.i64 v.num, Value.string { data := v.text.toArray }, Value.slice p5 v.kids.length c5, Value.slice p6 v.names.length c6] 27)) wr.heap.size (.int .u8 v.kind) (.int .i64 v.num) (.string ⟨v.text.toArray⟩) (.slice p5 v.kids.length c5) (.slice p6 v.names.length c6)) := Lib.hid (heap_alloc_new wr _)
      have HG := Lib.hid hg
      have HPA := Lib.hid (fun o => P.out.alloc hBr o)
      have HNM : Hid (∀ W, Below B w W → W.cell? ⟨g2, o2 + kk, none⟩ = some (.string ⟨s.toArray⟩)) := Lib.hid (fun W hW => by
        have h1 := hcells2 kk (strv ns[kk]) (by simp [strs, hnl])
        rw [hs] at h1
        exact (hW.cell (p := ⟨g2, o2 + kk, none⟩) (HOK.out g2 hg2')).trans h1)
      have hql := quoted_len s
      rw [if_pos rfl, hsg] at hnext
      by_cases hk0 : kk = 0
      · have htn : decide (0 < kk) = false := by simp only [decide_eq_false_iff_not]; omega
        have HNX : Hid (123 :: putKids true true (ks.take (kk + 1)) ns = a ++ Js.quoted s ++ [58] ++ put v) := Lib.hid (by rw [hnext, ← ha, hk0]; simp)
        have hlen : a.length + (Js.quoted s).length + 1 + (put v).length ≤ R.length := by
          have := congrArg List.length HNX.out
          simp only [List.length_append, List.length_cons, List.length_nil] at this
          omega
        have hHL := HLEN.out
        have HN5 : Hid (n + (a ++ Js.quoted s).length + 1 ≤ maxLen ∧ (n + (a ++ Js.quoted s).length + 1) * 1 ≤ 140737488355328) := Lib.hid (by rw [List.length_append]; unfold maxLen; omega)
        have HQ := Lib.hid (fun sv W (h : PIn B n xs w w.heap.size (.int .u8 5) (.int .i64 m) (.string ⟨t.toArray⟩) (.slice (some ⟨g, o, none⟩) ks.length c) (.slice (some ⟨g2, o2, none⟩) ns.length d) a sv W) => put_name h s HD.out hB8 HBW.out (by omega) (by omega))
        have HCALL := Lib.hid (fun sv W (h : PIn B n xs w w.heap.size (.int .u8 5) (.int .i64 m) (.string ⟨t.toArray⟩) (.slice (some ⟨g, o, none⟩) ks.length c) (.slice (some ⟨g2, o2, none⟩) ns.length d) (a ++ Js.quoted s ++ [58]) sv W) => put_kid h hPk _ hVk HOK.out hFk hMk HE.out HD.out hNG hB8 HBW.out (by simp only [List.length_append, List.length_cons, List.length_nil]; omega))
        have hname1 := HNM.out _ ((HPA.out (Obj.cells #[Value.int IntKind.u8 v.kind, Value.int IntKind.i64 v.num, Value.string { data := v.text.toArray }, Value.slice p5 v.kids.length c5, Value.slice p6 v.names.length c6] 27)).fr.below)
        clear hcells hg' hcells2 hg2' hVk hPk hFk hMk hc hnext htl hRl hv hcs ha hBr hg hlen hHL hl hk0 hs hsg hql
        go_wp2_with (first | (go_at_call 19; refine (HCALL.out _ _ HP4.out).mono ?_; rintro e w5 ⟨v5, rfl, hp5⟩; have HP5 := Lib.hid hp5; clear hp5) | (go_at_call 34; refine (HQ.out _ _ (HPA.out _)).mono ?_; rintro e w3 ⟨v3, rfl, hp3, hf3⟩; have HP3 := Lib.hid hp3; have HBW3 : Hid (∀ o, B ≤ (w3.alloc o).heap.size) := Lib.hid (fun o => by have h1 := HBW.out; have h2 := hp3.fr.below.size; simp; omega); have HP3A := Lib.hid (fun o => hp3.alloc (Nat.le_trans HBW.out hp3.fr.below.size) o); have HKB3 := Lib.hid (five_others HKB.out hf3.others); clear hp3 hf3) | (at_builtin; refine wpList_append_fresh _ rfl _ _ 22 rfl B 5 i0 (.int .u8 0) 1 1 Tryd.underlying22 hi hz0 hz1 hz2 rfl (by decide) v3 _ _ rfl (HP3A.out _).own ⟨w3.heap.size, 0, none⟩ 1 1 [.int .u8 58] rfl rfl (new_cells w3 #[.int .u8 58] _) (one_of _) HN5.out.1 HN5.out.2 (HBW3.out _) ?_; intro v4 w4 hv' hg' hf'; have HF4 := Lib.hid (Fr.of_grown (HP3A.out _).own (HBW3.out _) hg'); have HP4 := Lib.hid ((HP3A.out _).app (b := [58]) hv' HF4.out); have hbx := five_others (HKB3.out.same (Below.heap_alloc _ (.cells #[.int .u8 58] 5) _ HKB3.out.lt)) HF4.out.others; obtain ⟨k0, k1, k2, k3, k4⟩ := hbx.cells; clear hv' hg' hf' hbx))
        go_roundg (ks.length - (kk + 1))
        case measure => have := HG.out; omega
        case rel => exact ⟨kk + 1, by omega, Nat.le_refl _, rfl, by rw [HNX.out]; exact HP5⟩
      · have hpos : 0 < kk := by omega
        have HNX : Hid (123 :: putKids true true (ks.take (kk + 1)) ns = a ++ [44] ++ Js.quoted s ++ [58] ++ put v) := Lib.hid (by rw [hnext, ← ha, if_neg hk0]; simp)
        have hlen : a.length + 1 + (Js.quoted s).length + 1 + (put v).length ≤ R.length := by
          have := congrArg List.length HNX.out
          simp only [List.length_append, List.length_cons, List.length_nil] at this
          omega
        have hHL := HLEN.out
        have HN3 : Hid (n + a.length + 1 ≤ maxLen ∧ (n + a.length + 1) * 1 ≤ 140737488355328) := Lib.hid (by unfold maxLen; omega)
        have HN5 : Hid (n + (a ++ [44] ++ Js.quoted s).length + 1 ≤ maxLen ∧ (n + (a ++ [44] ++ Js.quoted s).length + 1) * 1 ≤ 140737488355328) := Lib.hid (by simp only [List.length_append, List.length_cons, List.length_nil]; unfold maxLen; omega)
        have HQ := Lib.hid (fun sv W (h : PIn B n xs w w.heap.size (.int .u8 5) (.int .i64 m) (.string ⟨t.toArray⟩) (.slice (some ⟨g, o, none⟩) ks.length c) (.slice (some ⟨g2, o2, none⟩) ns.length d) (a ++ [44]) sv W) => put_name h s HD.out hB8 HBW.out (by omega) (by simp only [List.length_append, List.length_cons, List.length_nil]; omega))
        have HCALL := Lib.hid (fun sv W (h : PIn B n xs w w.heap.size (.int .u8 5) (.int .i64 m) (.string ⟨t.toArray⟩) (.slice (some ⟨g, o, none⟩) ks.length c) (.slice (some ⟨g2, o2, none⟩) ns.length d) (a ++ [44] ++ Js.quoted s ++ [58]) sv W) => put_kid h hPk _ hVk HOK.out hFk hMk HE.out HD.out hNG hB8 HBW.out (by simp only [List.length_append, List.length_cons, List.length_nil]; omega))
        clear hcells hg' hcells2 hg2' hVk hPk hFk hMk hc hnext htl hRl hv hcs ha hBr hg hlen hHL hl hk0 hs hsg hql
        go_wp2_with (first | (go_at_call 19; refine (HCALL.out _ _ HP4.out).mono ?_; rintro e w5 ⟨v5, rfl, hp5⟩; have HP5 := Lib.hid hp5; clear hp5) | (go_at_call 34; refine (HQ.out _ _ HP2.out).mono ?_; rintro e w3 ⟨v3, rfl, hp3, hf3⟩; have HP3 := Lib.hid hp3; have HBW3 : Hid (∀ o, B ≤ (w3.alloc o).heap.size) := Lib.hid (fun o => by have h1 := HBW.out; have h2 := hp3.fr.below.size; simp; omega); have HP3A := Lib.hid (fun o => hp3.alloc (Nat.le_trans HBW.out hp3.fr.below.size) o); have HKB3 := Lib.hid (five_others HKB2.out hf3.others); clear hp3 hf3) | (at_builtin; refine wpList_append_fresh _ rfl _ _ 22 rfl B 5 i0 (.int .u8 0) 1 1 Tryd.underlying22 hi hz0 hz1 hz2 rfl (by decide) v3 _ _ rfl (HP3A.out _).own ⟨w3.heap.size, 0, none⟩ 1 1 [.int .u8 58] rfl rfl (new_cells w3 #[.int .u8 58] _) (one_of _) HN5.out.1 HN5.out.2 (HBW3.out _) ?_; intro v4 w4 hv' hg' hf'; have HF4 := Lib.hid (Fr.of_grown (HP3A.out _).own (HBW3.out _) hg'); have HP4 := Lib.hid ((HP3A.out _).app (b := [58]) hv' HF4.out); have hbx := five_others (HKB3.out.same (Below.heap_alloc _ (.cells #[.int .u8 58] 5) _ HKB3.out.lt)) HF4.out.others; obtain ⟨k0, k1, k2, k3, k4⟩ := hbx.cells; clear hv' hg' hf' hbx) | (at_builtin; refine wpList_append_fresh _ rfl _ _ 22 rfl B 5 i0 (.int .u8 0) 1 1 Tryd.underlying22 hi hz0 hz1 hz2 rfl (by decide) u0 (n + a.length) _ rfl ((HPA.out _).own.alloc _) ⟨wr.heap.size + 1, 0, none⟩ 1 1 [.int .u8 44] rfl rfl (new_cells1 wr _ #[.int .u8 44] _) (one_of _) HN3.out.1 HN3.out.2 (by have := HBR.out; simp; omega) ?_; intro v2 w2 hv' hg' hf'; have HF2 := Lib.hid (Fr.of_grown ((HPA.out _).own.alloc _) (by have := HBR.out; simp; omega) hg'); have HP2 := Lib.hid (((HPA.out _).alloc (by have := HBR.out; simp; omega) _).app (b := [44]) hv' HF2.out); have HKB2 := Lib.hid (five_others (HKB.out.same (Below.heap_alloc _ (.cells #[.int .u8 44] 5) _ (by simp))) HF2.out.others); obtain ⟨q0, q1, q2, q3, q4⟩ := HP2.out.box.cells; have hname2 := HNM.out _ HP2.out.fr.below; clear hv' hg' hf'))
        go_roundg (ks.length - (kk + 1))
        case measure => have := HG.out; omega
        case rel => exact ⟨kk + 1, by omega, Nat.le_refl _, rfl, by rw [HNX.out]; exact HP5⟩
    · have hltz : decide ((kk : Int) < (ks.length : Int)) = false := by simp only [decide_eq_false_iff_not]; omega
      obtain rfl : kk = ks.length := by omega
      have hRl : R.length = (putKids true true ks ns).length + 2 := by rw [← HR.out]; simp
      obtain ⟨a, ha⟩ : ∃ a, 123 :: putKids true true (ks.take ks.length) ns = a := ⟨_, rfl⟩
      rw [ha] at P
      have HF : Hid (R = a ++ [125]) := by
        rw [← HR.out, ← ha, List.take_length]
        exact Lib.hid rfl
      have hlen : R.length = a.length + 1 := by rw [HF.out]; simp
      have hHL := HLEN.out
      have HN3 : Hid (n + a.length + 1 ≤ maxLen ∧ (n + a.length + 1) * 1 ≤ 140737488355328) := Lib.hid (by unfold maxLen; omega)
      have hBr : B ≤ wr.heap.size := Nat.le_trans HBW.out P.out.fr.below.size
      have HPA := Lib.hid (fun o => P.out.alloc hBr o)
      have HBR : Hid (∀ o, B ≤ (wr.alloc o).heap.size) := Lib.hid (fun o => by simp; omega)
      clear ha hRl hlen hHL hBr
      go_wp2_with (first | (at_builtin; refine wpList_append_fresh _ rfl _ _ 22 rfl B 5 i0 (.int .u8 0) 1 1 Tryd.underlying22 hi hz0 hz1 hz2 rfl (by decide) u0 (n + a.length) _ rfl (HPA.out _).own ⟨wr.heap.size, 0, none⟩ 1 1 [.int .u8 125] rfl rfl (new_cells wr #[.int .u8 125] _) (one_of _) HN3.out.1 HN3.out.2 (HBR.out _) ?_; intro v2 w2 hv' hg' hf'; have HF2 := Lib.hid (Fr.of_grown (HPA.out _).own (HBR.out _) hg'); have HP2 := Lib.hid ((HPA.out _).app (b := [125]) hv' HF2.out); clear hv' hg' hf'))
      go_ret
      refine ⟨v2, rfl, ?_, HP2.out.fr⟩
      rw [HF.out]; exact HP2.out.own
end Go.Proofs.YtcmlppknfbndaaaDoor
