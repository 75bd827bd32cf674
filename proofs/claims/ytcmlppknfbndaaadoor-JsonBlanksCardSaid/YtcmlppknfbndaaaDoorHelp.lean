/-
  The law's own helpers: same, copied. Conditions: each contract's own.
-/
import Derived.Test.YtcmlppknfbndaaaDoorField
import Derived.Test.YtcmlppknfbndaaaDoorPrint
import Derived.Deep.QuietTactic
import Derived.BigQuiet
namespace Go.Proofs.YtcmlppknfbndaaaDoor
open Go.RowKit Js

theorem same_eqb {x y : UInt8} (h : x = y) : (((x.toNat : Nat) : Int) != (y.toNat : Int)) = false := by rw [h]; simp
theorem same_neb {x y : UInt8} (h : ¬ x = y) : (((x.toNat : Nat) : Int) != (y.toNat : Int)) = true := by
  rw [bne_iff_ne]
  intro e
  exact h (by rw [← UInt8.ofNat_toNat (x := x), ← UInt8.ofNat_toNat (x := y), Int.ofNat_inj.1 e])

set_option maxHeartbeats 4000000 in
set_option maxRecDepth 100000 in
theorem bytes_same {F : FuncId} (hF : F = 11) (b b' : Nat) (l l' : List UInt8) (v v' : Value) (w : World) (hv : Slice w b v l) (hv' : Slice w b' v' l') :
    Calls Tryd.prog F #[v, v'] w fun e w' => e = .returned (.bool (decide (l = l'))) ∧ Below w.heap.size w w' := by
  subst hF
  have h0 := hv
  have h0' := hv'
  obtain ⟨p, c, rfl, h1, h2, h3⟩ := hv
  obtain ⟨p', c', rfl, h1', h2', h3'⟩ := hv'
  obtain ⟨R, hR⟩ : ∃ R, decide (l = l') = R := ⟨_, rfl⟩
  rw [hR]
  have HR := Lib.hid hR
  clear hR
  by_cases hlen : l.length = l'.length
  · obtain ⟨n, hn⟩ : ∃ n, l.length = n := ⟨_, rfl⟩
    have hn' : l'.length = n := by rw [← hlen]; exact hn
    rw [hn] at h1 ⊢
    rw [hn'] at h1' ⊢
    have HN := Lib.hid hn
    have HN' := Lib.hid hn'
    have hlt0 : ∀ kk, kk < n → ∃ o o', p = some ⟨b, o, none⟩ ∧ p' = some ⟨b', o', none⟩ ∧ b < w.heap.size ∧ b' < w.heap.size ∧ Bytes w b o l ∧ Bytes w b' o' l' := fun kk hk => by
      have ne : l ≠ [] := by intro e; rw [e] at hn; simp at hn; omega
      have ne' : l' ≠ [] := by intro e; rw [e] at hn'; simp at hn'; omega
      obtain ⟨o, e1, e2⟩ := h3 ne
      obtain ⟨o', e1', e2'⟩ := h3' ne'
      exact ⟨o, o', e1, e1', e2.lt ne, e2'.lt ne', e2, e2'⟩
    have HLT := Lib.hid hlt0
    clear h0 h0' h3 h3' hlen hn hn' hlt0
    have hnm : n ≤ 9223372036854775807 := by omega
    go_enter Tryd.func11, Tryd.ntmps11
    go_wp2
    go_loopg [5] n (fun gg s5 wr => ∃ kk : Nat, kk ≤ n ∧ n - kk ≤ gg ∧ s5 = .int .i64 kk ∧ Hid (Below w.heap.size w wr) ∧ Hid (decide (l.drop kk = l'.drop kk) = R))
    case atStart => exact ⟨0, Nat.zero_le _, by omega, rfl, Lib.hid (Below.refl _ w), HR⟩
    case round =>
      obtain ⟨kk, hkk, hg, rfl, BW, A⟩ := hrel
      by_cases hlt : kk < n
      · obtain ⟨o, o', rfl, rfl, hb, hb', hB, hB'⟩ := HLT.out kk hlt
        have i1 : kk < l.length := by rw [HN.out]; exact hlt
        have i2 : kk < l'.length := by rw [HN'.out]; exact hlt
        have c1 : wr.cell? ⟨b, o + kk, none⟩ = some (.int .u8 (l[kk]).toNat) := by
          rw [BW.out.cell (p := ⟨b, o + kk, none⟩) hb, hB kk i1]
          simp [List.getD, i1]
        have c2 : wr.cell? ⟨b', o' + kk, none⟩ = some (.int .u8 (l'[kk]).toNat) := by
          rw [BW.out.cell (p := ⟨b', o' + kk, none⟩) hb', hB' kk i2]
          simp [List.getD, i2]
        have hst : (l.drop kk = l'.drop kk) ↔ (l[kk] = l'[kk] ∧ l.drop (kk + 1) = l'.drop (kk + 1)) := by
          rw [List.drop_eq_getElem_cons i1, List.drop_eq_getElem_cons i2, List.cons.injEq]
        obtain ⟨x, hx⟩ : ∃ x, l[kk] = x := ⟨_, rfl⟩
        obtain ⟨y, hy⟩ : ∃ y, l'[kk] = y := ⟨_, rfl⟩
        rw [hx] at c1 hst
        rw [hy] at c2 hst
        have HST := Lib.hid hst
        have HG := Lib.hid hg
        have hwr : IntKind.i64.wrap ((kk : Int) + 1) = ((kk + 1 : Nat) : Int) := by
          rw [show ((kk + 1 : Nat) : Int) = (kk : Int) + 1 by omega]
          exact wrap_small _ (by omega) (by omega)
        clear hB hB' hst hx hy hg i1 i2 hb hb'
        by_cases hxy : x = y
        · have hq := same_eqb hxy
          have HA : Hid (decide (l.drop (kk + 1) = l'.drop (kk + 1)) = R) := Lib.hid (by
            rw [← A.out, Bool.eq_iff_iff, decide_eq_true_eq, decide_eq_true_eq, HST.out]
            exact ⟨fun h => ⟨hxy, h⟩, fun h => h.2⟩)
          obtain ⟨x', hx'⟩ : ∃ z, (x.toNat : Int) = z := ⟨_, rfl⟩
          obtain ⟨y', hy'⟩ : ∃ z, (y.toNat : Int) = z := ⟨_, rfl⟩
          rw [hx'] at c1 hq
          rw [hy'] at c2 hq
          clear hx' hy' hxy HST
          go_wp2
          go_quiet (fail)
          go_wp2
          go_roundg (n - (kk + 1))
          case measure => have := HG.out; omega
          case rel => exact ⟨kk + 1, by omega, Nat.le_refl _, rfl, Lib.hid (BW.out.trans ((Below.drewN' wr nq).mono BW.out.size)), HA⟩
        · have hq := same_neb hxy
          have HF : Hid (R = false) := Lib.hid (by
            rw [← A.out, decide_eq_false_iff_not, HST.out]
            exact fun h => hxy h.1)
          obtain ⟨x', hx'⟩ : ∃ z, (x.toNat : Int) = z := ⟨_, rfl⟩
          obtain ⟨y', hy'⟩ : ∃ z, (y.toNat : Int) = z := ⟨_, rfl⟩
          rw [hx'] at c1 hq
          rw [hy'] at c2 hq
          clear hx' hy' hxy HST
          go_wp2
          go_quiet (fail)
          go_wp2
          go_ret
          exact ⟨by rw [HF.out]; rfl, BW.out.trans ((Below.drewN' wr nq).mono BW.out.size)⟩
      · have hltz : decide ((kk : Int) < (n : Int)) = false := by simp only [decide_eq_false_iff_not]; omega
        have HF : Hid (R = true) := Lib.hid (by
          rw [← A.out, List.drop_eq_nil_of_le (by rw [HN.out]; omega), List.drop_eq_nil_of_le (by rw [HN'.out]; omega)]
          exact decide_eq_true rfl)
        go_wp2
        go_ret
        exact ⟨by rw [HF.out]; rfl, BW.out⟩
  · have HF : Hid (R = false) := Lib.hid (by
      rw [← HR.out, decide_eq_false_iff_not]
      intro e; exact hlen (by rw [e]))
    have hz : (((l.length : Nat) : Int) == (l'.length : Int)) = false := by rw [beq_eq_false_iff_ne]; omega
    have hz' : (((l.length : Nat) : Int) != (l'.length : Int)) = true := by rw [bne_iff_ne]; omega
    have hz2 : (l.length == l'.length) = false := by rw [beq_eq_false_iff_ne]; exact hlen
    have hz3 : (l.length != l'.length) = true := by rw [bne_iff_ne]; exact hlen
    clear hlen h0 h0' h3 h3'
    go_enter Tryd.func11, Tryd.ntmps11
    go_wp2
    go_ret
    exact ⟨by rw [HF.out]; rfl, Below.refl _ _⟩
end Go.Proofs.YtcmlppknfbndaaaDoor
