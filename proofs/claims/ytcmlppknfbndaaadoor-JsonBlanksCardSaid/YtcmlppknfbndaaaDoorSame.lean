/-
  json's Same. Conditions: each contract's own.
-/
import Derived.Test.YtcmlppknfbndaaaDoorMayTop
namespace Go.Proofs.YtcmlppknfbndaaaDoor
open Go.RowKit Js

theorem Below.drewN' (w : World) (q : Nat) : Below w.heap.size w (w.drewN q) := by
  induction q with
  | zero => exact Below.refl _ _
  | succ q ih => exact ⟨ih.os, ih.tape, ih.output, ih.size, ih.block⟩

def arrs (ns : List (List UInt8)) : List ByteArray := ns.map fun s => ⟨s.toArray⟩
theorem arrs_inj {a b : List (List UInt8)} (h : arrs a = arrs b) : a = b := by
  induction a generalizing b with
  | nil =>
    cases b with
    | nil => rfl
    | cons y b => simp [arrs] at h
  | cons x a ih =>
    cases b with
    | nil => simp [arrs] at h
    | cons y b =>
      simp only [arrs, List.map_cons, List.cons.injEq] at h
      obtain ⟨h1, h2⟩ := h
      injection h1 with h1
      injection h1 with h1
      rw [h1, ih h2]
theorem row_names {w : World} {ok : Nat → Prop} {v : Value} {ns : List (List UInt8)} (h : RowAt w ok v ns.length (strs ns)) (hne : ns ≠ []) : ∃ g o c, v = .slice (some ⟨g, o, none⟩) ns.length c ∧ ∀ j, j < (arrs ns).length → w.cell? ⟨g, o + j, none⟩ = some (.string ((arrs ns).getD j ByteArray.empty)) := by
  obtain ⟨p, c, rfl, h1, h2, h3⟩ := h
  obtain ⟨g, o, rfl, _, hc⟩ := h3 (by simpa using hne)
  refine ⟨g, o, c, rfl, fun j hj => ?_⟩
  have hj' : j < ns.length := by simpa [arrs] using hj
  have := hc j (strv ns[j]) (by simp [strs, hj'])
  rw [this]
  simp [arrs, List.getD, hj', strv]
theorem equal_any {w : World} {ok : Nat → Prop} {v v' : Value} {ns ns' : List (List UInt8)} (h : RowAt w ok v ns.length (strs ns)) (h' : RowAt w ok v' ns'.length (strs ns')) :
    Calls Tryd.prog 21 #[v, v'] w fun e w' => e = .returned (.bool (decide (ns = ns'))) ∧ Below w.heap.size w w' := by
  have hp := h
  have hp' := h'
  obtain ⟨p, c, rfl, h1, h2, h3⟩ := h
  obtain ⟨p', c', rfl, h1', h2', h3'⟩ := h'
  by_cases hl : ns.length = ns'.length
  · by_cases hne : ns = []
    · subst hne
      obtain rfl : ns' = [] := List.eq_nil_of_length_eq_zero hl.symm
      refine (Tryd.slices_Equal_string_empty p p' c 0 c' w (by decide)).mono ?_
      rintro e w' ⟨rfl, rfl⟩
      exact ⟨by simp, Below.refl _ _⟩
    · have hne' : ns' ≠ [] := by intro x; subst x; exact hne (List.eq_nil_of_length_eq_zero hl)
      obtain ⟨g, o, c0, e, hc⟩ := row_names hp hne
      obtain ⟨g', o', c0', e', hc'⟩ := row_names hp' hne'
      injection e with e1 e2 e3
      injection e' with e1' e2' e3'
      subst e1 e1'
      refine (Tryd.slices_Equal_string g o ns.length c g' o' ns'.length c' (arrs ns) (arrs ns') w (by simp [arrs]) (by simp [arrs]) (by omega) (by omega) hc hc').mono ?_
      rintro e w' ⟨rfl, q, rfl⟩
      refine ⟨?_, Below.drewN' w q⟩
      have : decide ((arrs ns).take ns.length = (arrs ns').take ns'.length) = decide (ns = ns') := by
        rw [List.take_of_length_le (by simp [arrs]), List.take_of_length_le (by simp [arrs]), Bool.eq_iff_iff, decide_eq_true_eq, decide_eq_true_eq]
        exact ⟨arrs_inj, fun e => by rw [e]⟩
      rw [this]
  · refine (Tryd.slices_Equal_string_lens p p' ns.length c ns'.length c' w hl).mono ?_
    rintro e w' ⟨rfl, rfl⟩
    have : decide (ns = ns') = false := by
      rw [decide_eq_false_iff_not]; intro e; exact hl (by rw [e])
    exact ⟨by rw [this], Below.refl _ _⟩

def SameOk (v : V) : Prop := ∀ (u : V) (cs ds : List Value) (w : World) (ok : Nat → Prop), (∀ k, ok k → k < w.heap.size) → VAt w ok v cs → VAt w ok u ds →
  Calls Tryd.prog 10 #[.agg cs.toArray, .agg ds.toArray] w fun e w' => e = .returned (.bool (same v u)) ∧ Below w.heap.size w w'

theorem sameAll_step {ks us : List V} {kk : Nat} (h1 : kk < ks.length) (h2 : kk < us.length) : sameAll (ks.drop kk) (us.drop kk) = (same ks[kk] us[kk] && sameAll (ks.drop (kk + 1)) (us.drop (kk + 1))) := by
  rw [List.drop_eq_getElem_cons h1, List.drop_eq_getElem_cons h2, sameAll]
theorem sameAll_len : ∀ (ks us : List V), ks.length ≠ us.length → sameAll ks us = false
  | [], [], h => absurd rfl h
  | [], _ :: _, _ => by rw [sameAll]; all_goals simp
  | _ :: _, [], _ => by rw [sameAll]; all_goals simp
  | v :: r, u :: q, h => by rw [sameAll, sameAll_len r q (by simpa using h), Bool.and_false]

set_option maxHeartbeats 4000000 in
set_option maxRecDepth 100000 in
theorem equalFunc_any (ks us : List V) (hk : ∀ v ∈ ks, SameOk v) (css dss : List (List Value)) (p p' : Option Addr) (c c' : Nat) (w : World) (ok : Nat → Prop) (hok : ∀ k, ok k → k < w.heap.size) (hall : VAll w ok ks css) (hall' : VAll w ok us dss)
    (hr : RowAt w ok (.slice p ks.length c) ks.length css.flatten) (hr' : RowAt w ok (.slice p' us.length c') us.length dss.flatten) :
    Calls Tryd.prog 22 #[.slice p ks.length c, .slice p' us.length c', .func (.func 10) #[] #[]] w fun e w' => e = .returned (.bool (sameAll ks us)) ∧ Below w.heap.size w w' := by
  obtain ⟨R, hR⟩ : ∃ R, sameAll ks us = R := ⟨_, rfl⟩
  rw [hR]
  have HR := Lib.hid hR
  have HK := Lib.hid hk
  have HOK := Lib.hid hok
  have HALL := Lib.hid hall
  have HALL' := Lib.hid hall'
  have HL := Lib.hid hall.lengths
  have HL' := Lib.hid hall'.lengths
  have hmax : ks.length ≤ 9223372036854775807 := by obtain ⟨_, _, e, h1, h2, _⟩ := hr; omega
  have hrow : ks.length ≠ 0 → ∃ g o, p = some ⟨g, o, none⟩ ∧ ok g ∧ CellsAt w g o css.flatten := by
    obtain ⟨_, _, e, h1, h2, h3⟩ := hr
    injection e with e1 e2 e3
    subst e1; exact h3
  have hrow' : us.length ≠ 0 → ∃ g o, p' = some ⟨g, o, none⟩ ∧ ok g ∧ CellsAt w g o dss.flatten := by
    obtain ⟨_, _, e, h1, h2, h3⟩ := hr'
    injection e with e1 e2 e3
    subst e1; exact h3
  have HROW := Lib.hid hrow
  have HROW' := Lib.hid hrow'
  clear hR hk hok hall hall' hr hr' hrow hrow'
  by_cases hlen : ks.length = us.length
  · have HLEN := Lib.hid hlen
    obtain ⟨n, hn⟩ : ∃ n, ks.length = n := ⟨_, rfl⟩
    have hn' : us.length = n := by rw [← hlen]; exact hn
    rw [hn, hn']
    rw [hn] at hmax
    have HN := Lib.hid hn
    have HN' := Lib.hid hn'
    clear hn hn' hlen
    go_enter Tryd.func22, Tryd.ntmps22
    go_wp2
    go_loopg [17] n (fun gg s17 wr => ∃ kk : Nat, kk ≤ n ∧ n - kk ≤ gg ∧ s17 = .int .i64 kk ∧ Hid (Below w.heap.size w wr) ∧ Hid (sameAll (ks.drop kk) (us.drop kk) = R))
    case atStart => exact ⟨0, Nat.zero_le _, by omega, rfl, Lib.hid (Below.refl _ w), HR⟩
    case round =>
      obtain ⟨kk, hkk, hg, rfl, BW, A⟩ := hrel
      by_cases hlt : kk < n
      · have hltz : decide ((kk : Int) < (n : Int)) = true := by simp only [decide_eq_true_eq]; omega
        have h1 : kk < ks.length := by rw [HN.out]; exact hlt
        have h2 : kk < us.length := by rw [HN'.out]; exact hlt
        have hl := HL.out
        have hl' := HL'.out
        have j1 : kk < css.length := by rw [hl.1]; exact h1
        have j2 : kk < dss.length := by rw [hl'.1]; exact h2
        obtain ⟨g, o, rfl, hg', hcells⟩ := HROW.out (by omega)
        obtain ⟨g2, o2, rfl, hg2', hcells2⟩ := HROW'.out (by omega)
        have hV := VAll.get ks css HALL.out kk j1 h1
        have hU := VAll.get us dss HALL'.out kk j2 h2
        have hS := HK.out ks[kk] (List.getElem_mem h1)
        have hst := sameAll_step h1 h2
        obtain ⟨v, hv⟩ : ∃ v, ks[kk] = v := ⟨_, rfl⟩
        obtain ⟨u, hu⟩ : ∃ u, us[kk] = u := ⟨_, rfl⟩
        rw [hv, hu] at hst
        rw [hv] at hV hS
        rw [hu] at hU
        obtain ⟨p5, c5, p6, c6, hsh, _, _, _, _⟩ := hV.shape
        obtain ⟨p7, c7, p8, c8, hsh2, _, _, _, _⟩ := hU.shape
        simp only [strv] at hsh hsh2
        have hc : ∀ i x, css[kk][i]? = some x → wr.cell? ⟨g, o + kk * 5 + i, none⟩ = some x := fun i x hx =>
          (BW.out.cell (p := ⟨g, o + kk * 5 + i, none⟩) (HOK.out g hg')).trans (row_five hcells hl.2 kk j1 i x hx)
        have hd : ∀ i x, dss[kk][i]? = some x → wr.cell? ⟨g2, o2 + kk * 5 + i, none⟩ = some x := fun i x hx =>
          (BW.out.cell (p := ⟨g2, o2 + kk * 5 + i, none⟩) (HOK.out g2 hg2')).trans (row_five hcells2 hl'.2 kk j2 i x hx)
        rw [hsh] at hc hV
        rw [hsh2] at hd hU
        have c0 := hc 0 _ rfl
        have c1 := hc 1 _ rfl
        have c2 := hc 2 _ rfl
        have c3 := hc 3 _ rfl
        have c4 := hc 4 _ rfl
        have d0 := hd 0 _ rfl
        have d1 := hd 1 _ rfl
        have d2 := hd 2 _ rfl
        have d3 := hd 3 _ rfl
        have d4 := hd 4 _ rfl
        simp only [Nat.add_zero] at c0 d0
        have hgl := Nat.lt_of_lt_of_le (HOK.out g2 hg2') BW.out.size
        have e0 := fun o' => (World.cell?_alloc_lt wr o' ⟨g2, o2 + kk * 5, none⟩ hgl).trans d0
        have e1 := fun o' => (World.cell?_alloc_lt wr o' ⟨g2, o2 + kk * 5 + 1, none⟩ hgl).trans d1
        have e2 := fun o' => (World.cell?_alloc_lt wr o' ⟨g2, o2 + kk * 5 + 2, none⟩ hgl).trans d2
        have e3 := fun o' => (World.cell?_alloc_lt wr o' ⟨g2, o2 + kk * 5 + 3, none⟩ hgl).trans d3
        have e4 := fun o' => (World.cell?_alloc_lt wr o' ⟨g2, o2 + kk * 5 + 4, none⟩ hgl).trans d4
        have HCALL := Lib.hid (fun o1 o2 => hS u [.int .u8 v.kind, .int .i64 v.num, .string ⟨v.text.toArray⟩, .slice p5 v.kids.length c5, .slice p6 v.names.length c6] [.int .u8 u.kind, .int .i64 u.num, .string ⟨u.text.toArray⟩, .slice p7 u.kids.length c7, .slice p8 u.names.length c8] ((wr.alloc o1).alloc o2) ok (fun k hk => by
            have := HOK.out k hk; have := BW.out.size; simp; omega)
          (VAt.same (fun k hk => (((Below.refl wr.heap.size wr).alloc (Nat.le_refl _) o1).alloc (by simp) o2).block k (Nat.lt_of_lt_of_le (HOK.out k hk) BW.out.size) |>.trans (BW.out.block k (HOK.out k hk))) _ _ hV)
          (VAt.same (fun k hk => (((Below.refl wr.heap.size wr).alloc (Nat.le_refl _) o1).alloc (by simp) o2).block k (Nat.lt_of_lt_of_le (HOK.out k hk) BW.out.size) |>.trans (BW.out.block k (HOK.out k hk))) _ _ hU))
        have HB2 := Lib.hid (fun o1 o2 => (BW.out.alloc BW.out.size o1).alloc (by have := BW.out.size; simp; omega) o2)
        obtain ⟨t, ht⟩ : ∃ t, same v u = t := ⟨_, rfl⟩
        rw [ht] at hst HCALL
        have HST := Lib.hid hst
        have HG := Lib.hid hg
        have hwr : IntKind.i64.wrap ((kk : Int) + 1) = ((kk + 1 : Nat) : Int) := by
          rw [show ((kk + 1 : Nat) : Int) = (kk : Int) + 1 by omega]
          exact wrap_small _ (by omega) (by omega)
        clear hcells hcells2 hg' hg2' hV hU hS hst hv hu hsh hsh2 hc hd hl hl' ht hg d0 d1 d2 d3 d4 h1 h2 j1 j2
        go_wp2_with fail
        refine (HCALL.out _ _).mono ?_
        rintro e w' ⟨rfl, hb'⟩
        have HB' := Lib.hid ((HB2.out _ _).trans (hb'.mono (HB2.out _ _).size))
        clear hb' c0 c1 c2 c3 c4 HCALL e0 e1 e2 e3 e4
        cases t with
        | false =>
          have HF : Hid (R = false) := Lib.hid (by rw [← A.out, HST.out]; rfl)
          go_wp2
          go_ret
          exact ⟨by rw [HF.out]; rfl, HB'.out⟩
        | true =>
          have HA : Hid (sameAll (ks.drop (kk + 1)) (us.drop (kk + 1)) = R) := Lib.hid (by rw [← A.out, HST.out]; rfl)
          go_wp2
          go_roundg (n - (kk + 1))
          case measure => have := HG.out; omega
          case rel => exact ⟨kk + 1, by omega, Nat.le_refl _, rfl, HB', HA⟩
      · have hltz : decide ((kk : Int) < (n : Int)) = false := by simp only [decide_eq_false_iff_not]; omega
        have HF : Hid (R = true) := Lib.hid (by
          rw [← A.out, List.drop_eq_nil_of_le (by rw [HN.out]; omega), List.drop_eq_nil_of_le (by rw [HN'.out]; omega), sameAll])
        go_wp2
        go_ret
        exact ⟨by rw [HF.out]; rfl, BW.out⟩
  · have HF : Hid (R = false) := Lib.hid (by rw [← HR.out]; exact sameAll_len ks us hlen)
    have hz : (((ks.length : Nat) : Int) == (us.length : Int)) = false := by rw [beq_eq_false_iff_ne]; omega
    have hz' : (((ks.length : Nat) : Int) != (us.length : Int)) = true := by rw [bne_iff_ne]; omega
    have hz2 : (ks.length == us.length) = false := by rw [beq_eq_false_iff_ne]; exact hlen
    have hz3 : (ks.length != us.length) = true := by rw [bne_iff_ne]; exact hlen
    clear hlen
    go_enter Tryd.func22, Tryd.ntmps22
    go_wp2
    go_ret
    exact ⟨by rw [HF.out]; rfl, Below.refl _ _⟩

set_option maxHeartbeats 4000000 in
set_option maxRecDepth 100000 in
theorem same_core (k n : Int) (t : List UInt8) (ks : List V) (ns : List (List UInt8)) (hk : ∀ v ∈ ks, SameOk v) : SameOk (.mk k n t ks ns) := by
  intro u cs ds w ok hok hV hU
  obtain ⟨k', n', t', ks', ns'⟩ := u
  obtain ⟨kv, nv, css, rfl, hall, hkr, hnr⟩ := hV
  obtain ⟨kv', nv', css', rfl, hall', hkr', hnr'⟩ := hU
  have hB2 : ∀ o o', Below w.heap.size w ((w.alloc o).alloc o') := fun o o' => ((Below.refl _ _).alloc (Nat.le_refl _) _).alloc (by simp) _
  have HB2 := Lib.hid hB2
  have hW : ∀ o o' W, Below ((w.alloc o).alloc o').heap.size ((w.alloc o).alloc o') W → Below w.heap.size w W := fun o o' W hb => (hB2 o o').trans (hb.mono (hB2 o o').size)
  have hEq := fun W (hb : Below w.heap.size w W) => equal_any (RowAt.same hnr (fun k hk => hb.block k (hok k hk))) (RowAt.same hnr' (fun k hk => hb.block k (hok k hk)))
  obtain ⟨p, c, rfl, hc1, hc2, hc3⟩ := hkr
  obtain ⟨p', c', rfl, hc1', hc2', hc3'⟩ := hkr'
  have hEf := fun W (hb : Below w.heap.size w W) => equalFunc_any ks ks' hk css css' p p' c c' W ok (fun k hk => Nat.lt_of_lt_of_le (hok k hk) hb.size) (VAll.same (fun k hk => hb.block k (hok k hk)) _ _ hall) (VAll.same (fun k hk => hb.block k (hok k hk)) _ _ hall')
    (RowAt.same ⟨p, c, rfl, hc1, hc2, hc3⟩ (fun k hk => hb.block k (hok k hk))) (RowAt.same ⟨p', c', rfl, hc1', hc2', hc3'⟩ (fun k hk => hb.block k (hok k hk)))
  obtain ⟨q, d, rfl, hd1, hd2, hd3⟩ := hnr
  obtain ⟨q', d', rfl, hd1', hd2', hd3'⟩ := hnr'
  obtain ⟨R, hR⟩ : ∃ R, same (.mk k n t ks ns) (.mk k' n' t' ks' ns') = R := ⟨_, rfl⟩
  rw [hR]
  rw [same] at hR
  have HR := Lib.hid hR
  have HEQ := Lib.hid hEq
  have HEF := Lib.hid hEf
  have HW := Lib.hid hW
  unfold strv
  clear hB2 hW hEq hEf hR hok hk hall hall' hc3 hc3' hd3 hd3' hc1 hc1' hc2 hc2' hd1 hd1' hd2 hd2'
  by_cases e1 : k = k'
  · subst e1
    by_cases e2 : n = n'
    · subst e2
      by_cases e3 : t = t'
      · subst e3
        obtain ⟨x, hx⟩ : ∃ x, decide (ns = ns') = x := ⟨_, rfl⟩
        obtain ⟨y, hy⟩ : ∃ y, sameAll ks ks' = y := ⟨_, rfl⟩
        rw [hx] at HEQ
        rw [hy] at HEF
        have HF : Hid (R = (x && y)) := Lib.hid (by rw [← HR.out, hx, hy]; simp)
        have HC : ∀ W, Hid (Below ((w.alloc (Obj.cells #[Value.int IntKind.u8 k, Value.int IntKind.i64 n, Value.string { data := t.toArray }, Value.slice p ks.length c, Value.slice q ns.length d] 27)).alloc (Obj.cells #[Value.int IntKind.u8 k, Value.int IntKind.i64 n, Value.string { data := t.toArray }, Value.slice p' ks'.length c', Value.slice q' ns'.length d'] 27)).heap.size ((w.alloc (Obj.cells #[Value.int IntKind.u8 k, Value.int IntKind.i64 n, Value.string { data := t.toArray }, Value.slice p ks.length c, Value.slice q ns.length d] 27)).alloc (Obj.cells #[Value.int IntKind.u8 k, Value.int IntKind.i64 n, Value.string { data := t.toArray }, Value.slice p' ks'.length c', Value.slice q' ns'.length d'] 27)) W) → W.cell? ⟨w.heap.size, 3, none⟩ = some (.slice p ks.length c) ∧ W.cell? ⟨w.heap.size + 1, 3, none⟩ = some (.slice p' ks'.length c') := fun W hb => by
          have hs1 : (w.alloc (Obj.cells #[Value.int IntKind.u8 k, Value.int IntKind.i64 n, Value.string { data := t.toArray }, Value.slice p ks.length c, Value.slice q ns.length d] 27)).heap.size = w.heap.size + 1 := by simp
          have f1 : Five W w.heap.size (.int .u8 k) (.int .i64 n) (.string ⟨t.toArray⟩) (.slice p ks.length c) (.slice q ns.length d) :=
            Five.same (w := (w.alloc (Obj.cells #[Value.int IntKind.u8 k, Value.int IntKind.i64 n, Value.string { data := t.toArray }, Value.slice p ks.length c, Value.slice q ns.length d] 27))) (heap_alloc_new w _) ((hb.out.block _ (by simp; omega)).trans (Below.heap_alloc _ _ _ (by simp)))
          have f2 : Five W (w.heap.size + 1) (.int .u8 k) (.int .i64 n) (.string ⟨t.toArray⟩) (.slice p' ks'.length c') (.slice q' ns'.length d') := by
            refine (hb.out.block _ (by simp)).trans ?_
            rw [← hs1]
            exact heap_alloc_new _ _
          exact ⟨f1.cells.2.2.2.1, f2.cells.2.2.2.1⟩
        have HCC := Lib.hid HC
        clear hx hy HR HC
        cases x with
        | false =>
          go_enter Tryd.func10, Tryd.ntmps10
          go_wp2_with (first | (go_at_call 21; refine (HEQ.out _ (HB2.out _ _)).mono ?_; rintro e w2 ⟨rfl, hb2⟩; have HBB := Lib.hid (HW.out _ _ _ hb2); clear hb2))
          go_ret
          exact ⟨by rw [HF.out]; rfl, HBB.out⟩
        | true =>
          go_enter Tryd.func10, Tryd.ntmps10
          go_wp2_with (first | (go_at_call 21; refine (HEQ.out _ (HB2.out _ _)).mono ?_; rintro e w2 ⟨rfl, hb2⟩; have HBB := Lib.hid (HW.out _ _ _ hb2); obtain ⟨f1, f2⟩ := HCC.out _ (Lib.hid hb2); clear hb2) | (go_at_call 22; refine (HEF.out _ HBB.out).mono ?_; rintro e w3 ⟨rfl, hb3⟩; have HB3 := Lib.hid (HBB.out.trans (hb3.mono HBB.out.size)); clear hb3))
          go_ret
          exact ⟨by rw [HF.out, Bool.true_and]; rfl, HB3.out⟩
      · have HF : Hid (R = false) := Lib.hid (by rw [← HR.out]; simp [e3])
        have hne : (⟨t.toArray⟩ : ByteArray) ≠ ⟨t'.toArray⟩ := by intro e; injection e with e; injection e with e; exact e3 e
        have hs2 : decide ((⟨t.toArray⟩ : ByteArray) = ⟨t'.toArray⟩) = false := by rw [decide_eq_false_iff_not]; exact hne
        clear HR
        go_enter Tryd.func10, Tryd.ntmps10
        go_wp2_with fail
        go_ret
        exact ⟨by rw [HF.out]; first | rfl | simp [e3], HB2.out _ _⟩
    · have HF : Hid (R = false) := Lib.hid (by rw [← HR.out]; simp [e2])
      have hs1 : (n == n') = false := by rw [beq_eq_false_iff_ne]; exact e2
      clear HR
      go_enter Tryd.func10, Tryd.ntmps10
      go_wp2_with fail
      go_ret
      exact ⟨by rw [HF.out]; rfl, HB2.out _ _⟩
  · have HF : Hid (R = false) := Lib.hid (by rw [← HR.out]; simp [e1])
    have hs1 : (k == k') = false := by rw [beq_eq_false_iff_ne]; exact e1
    clear HR
    go_enter Tryd.func10, Tryd.ntmps10
    go_wp2_with fail
    go_ret
    exact ⟨by rw [HF.out]; rfl, HB2.out _ _⟩

mutual
theorem same_any : ∀ v : V, SameOk v
  | .mk k n t ks ns => same_core k n t ks ns (same_all ks)
theorem same_all : ∀ (ks : List V), ∀ v ∈ ks, SameOk v
  | [], v, h => by simp at h
  | u :: r, v, h => by
    rcases List.mem_cons.1 h with e | h
    · rw [e]; exact same_any u
    · exact same_all r v h
end
end Go.Proofs.YtcmlppknfbndaaaDoor
