/-
  json's put. Conditions: each contract's own.
-/
import Derived.Test.YtcmlppknfbndaaaDoorPutO
namespace Go.Proofs.YtcmlppknfbndaaaDoor
open Go.RowKit Js

set_option maxHeartbeats 4000000 in
set_option maxRecDepth 100000 in
theorem put_core (k m : Int) (t : List UInt8) (ks : List V) (ns : List (List UInt8)) (h4 : k ≠ 4) (h5 : k ≠ 5) : PutOk (.mk k m t ks ns) := by
  intro cs w ok B n sv xs nest hok hV hfit hmay hE hD hNG hB8 hBw hown hlen
  obtain ⟨kv, nv, css, rfl, hall, ⟨p, c, rfl, hc1, hc2, hkr⟩, ⟨q, d, rfl, hd1, hd2, hnr⟩⟩ := hV
  obtain ⟨R, hR⟩ : ∃ R, put (.mk k m t ks ns) = R := ⟨_, rfl⟩
  rw [hR] at hlen ⊢
  unfold put at hR
  obtain ⟨i0, hi, hz0, hz1, hz2⟩ := info_parts info8
  have HR := Lib.hid hR
  have HOWA : Hid (∀ o, (w.alloc o).ownsRow B 5 1 sv n xs) := Lib.hid (fun o => hown.alloc o)
  have HFRA : Hid (∀ o, Fr B w (w.alloc o)) := Lib.hid (fun o => (Fr.refl B w).alloc hBw o)
  have HBA : Hid (∀ o, B ≤ (w.alloc o).heap.size) := Lib.hid (fun o => by simp; omega)
  have HTAB : Hid (∀ o, Lib.TabBelow Tryd.prog B (w.alloc o) "internal/strconv.uint64pow10" .u64 Lib.pow10Tab) := Lib.hid (fun o w' hb => ((hE.below ((Below.refl _ _).alloc hBw o) hNG).below hb hNG).pow)
  have HDA : Hid (∀ o, Deb (w.alloc o)) := Lib.hid (fun o => hD.below ((Below.refl _ _).alloc hBw o) hB8)
  have HFIT := Lib.hid hfit
  have HMAY := Lib.hid hmay
  have HLEN := Lib.hid hlen
  have HALL := Lib.hid hall
  have HKR := Lib.hid hkr
  have HNR := Lib.hid hnr
  have HOK := Lib.hid hok
  have HE := Lib.hid hE
  have HBW := Lib.hid hBw
  unfold strv
  clear hR hown hfit hmay hlen hall hkr hnr hok hE hD hBw hc1 hc2 hd1 hd2
  have hkind : k = 0 ∨ k = 1 ∨ k = 2 ∨ k = 3 ∨ (k = 4 ∨ k = 5) ∨ (k ≠ 0 ∧ k ≠ 1 ∧ k ≠ 2 ∧ k ≠ 3 ∧ k ≠ 4 ∧ k ≠ 5) := by omega
  rcases hkind with rfl | rfl | rfl | rfl | h45 | hno
  · have HF : Hid (R = [110, 117, 108, 108]) := HR.out.symm
    have hln := HLEN.out
    rw [HF.out] at hln
    have HN2 : Hid (n + (ByteArray.mk #[110, 117, 108, 108]).size ≤ maxLen ∧ n + (ByteArray.mk #[110, 117, 108, 108]).size ≤ 140737488355328) := Lib.hid (by
      have e : (ByteArray.mk #[110, 117, 108, 108]).size = 4 := rfl
      simp only [List.length_cons, List.length_nil] at hln
      unfold maxLen; omega)
    clear HR hln
    go_enter Tryd.func19, Tryd.ntmps19
    go_wp2_with (first | (at_builtin; refine Lib.wpList_append_own_string _ rfl _ _ 22 9 rfl B 5 i0 Tryd.underlying22 Tryd.underlying9 hi hz0 hz1 hz2 sv n xs rfl (HOWA.out _) ⟨#[110, 117, 108, 108]⟩ rfl HN2.out.1 HN2.out.2 (HBA.out _) ?_; intro v1 w1 hv' hg' hf'; have HV1 := Lib.hid hv'; have HG1 := Lib.hid hg'; clear hv' hg' hf'))
    go_ret
    refine ⟨v1, rfl, ?_, (HFRA.out _).trans (Fr.of_grown (HOWA.out _) (HBA.out _) HG1.out)⟩
    rw [HF.out]; exact HV1.out
  · have HF : Hid (R = if m = 1 then [116, 114, 117, 101] else [102, 97, 108, 115, 101]) := HR.out.symm
    by_cases h1 : m = 1
    · have hm : (m == (1 : Int)) = true := by simpa using h1
      have HF2 : Hid (R = [116, 114, 117, 101]) := by have := HF.out; rw [if_pos h1] at this; exact this
      have HN2 : Hid (n + (ByteArray.mk #[116, 114, 117, 101]).size ≤ maxLen ∧ n + (ByteArray.mk #[116, 114, 117, 101]).size ≤ 140737488355328) := Lib.hid (by
        have hln := HLEN.out
        rw [HF2.out] at hln
        have e : (ByteArray.mk #[116, 114, 117, 101]).size = 4 := rfl
        simp only [List.length_cons, List.length_nil] at hln
        unfold maxLen; omega)
      clear HR HF h1
      go_enter Tryd.func19, Tryd.ntmps19
      go_wp2_with (first | (go_at_call 32; go_in) | (go_at_call 49; go_in) | (at_builtin; refine Lib.wpList_append_own_string _ rfl _ _ 22 9 rfl B 5 i0 Tryd.underlying22 Tryd.underlying9 hi hz0 hz1 hz2 sv n xs rfl (HOWA.out _) ⟨#[116, 114, 117, 101]⟩ rfl HN2.out.1 HN2.out.2 (HBA.out _) ?_; intro v1 w1 hv' hg' hf'; have HV1 := Lib.hid hv'; have HG1 := Lib.hid hg'; clear hv' hg' hf'))
      go_ret
      refine ⟨v1, rfl, ?_, (HFRA.out _).trans (Fr.of_grown (HOWA.out _) (HBA.out _) HG1.out)⟩
      rw [HF2.out]; exact HV1.out
    · have hm : (m == (1 : Int)) = false := by simpa using h1
      have HF2 : Hid (R = [102, 97, 108, 115, 101]) := by have := HF.out; rw [if_neg h1] at this; exact this
      have HN2 : Hid (n + (ByteArray.mk #[102, 97, 108, 115, 101]).size ≤ maxLen ∧ n + (ByteArray.mk #[102, 97, 108, 115, 101]).size ≤ 140737488355328) := Lib.hid (by
        have hln := HLEN.out
        rw [HF2.out] at hln
        have e : (ByteArray.mk #[102, 97, 108, 115, 101]).size = 5 := rfl
        simp only [List.length_cons, List.length_nil] at hln
        unfold maxLen; omega)
      clear HR HF h1
      go_enter Tryd.func19, Tryd.ntmps19
      go_wp2_with (first | (go_at_call 32; go_in) | (go_at_call 49; go_in) | (at_builtin; refine Lib.wpList_append_own_string _ rfl _ _ 22 9 rfl B 5 i0 Tryd.underlying22 Tryd.underlying9 hi hz0 hz1 hz2 sv n xs rfl (HOWA.out _) ⟨#[102, 97, 108, 115, 101]⟩ rfl HN2.out.1 HN2.out.2 (HBA.out _) ?_; intro v1 w1 hv' hg' hf'; have HV1 := Lib.hid hv'; have HG1 := Lib.hid hg'; clear hv' hg' hf'))
      go_ret
      refine ⟨v1, rfl, ?_, (HFRA.out _).trans (Fr.of_grown (HOWA.out _) (HBA.out _) HG1.out)⟩
      rw [HF2.out]; exact HV1.out
  · have HF : Hid (R = Lib.itoa m) := HR.out.symm
    have hln := HLEN.out
    have HN2 : Hid (n + 21 ≤ 140737488355328) := Lib.hid (by omega)
    clear HR hln
    go_enter Tryd.func19, Tryd.ntmps19
    go_wp2_with (first | (go_at_call 33; refine (Tryd.strconv_AppendInt_10 B n m HFIT.out.1.1 HFIT.out.1.2 sv xs _ (HOWA.out _) (HBA.out _) HN2.out (HTAB.out _)).mono ?_; rintro e w1 ⟨v1, rfl, hv1, hb1, ho1⟩; have HV1 := Lib.hid hv1; have HB1 := Lib.hid (Fr.mk hb1 ho1); clear hv1 hb1 ho1))
    go_ret
    refine ⟨v1, rfl, ?_, (HFRA.out _).trans HB1.out⟩
    rw [HF.out]; exact HV1.out
  · have HF : Hid (R = Js.quoted t) := HR.out.symm
    have hln := HLEN.out
    have hql := quoted_len t
    rw [HF.out] at hln
    have hq := fun o => quoted_any B n sv t xs (w.alloc o) (HOWA.out o) (HBA.out o) (by omega) (by omega) (HDA.out o) hB8
    have HQ := Lib.hid hq
    clear HR hln hql hq
    go_enter Tryd.func19, Tryd.ntmps19
    go_wp2_with (first | (go_at_call 34; refine (HQ.out _).mono ?_; rintro e w1 ⟨v1, rfl, hv1, hg1, hf1⟩; have HV1 := Lib.hid hv1; have HG1 := Lib.hid hg1; clear hv1 hg1 hf1))
    go_ret
    refine ⟨v1, rfl, ?_, (HFRA.out _).trans (Fr.of_grown (HOWA.out _) (HBA.out _) HG1.out)⟩
    rw [HF.out]; exact HV1.out
  · rcases h45 with rfl | rfl
    · exact absurd rfl h4
    · exact absurd rfl h5
  · exfalso
    have h := HMAY.out
    unfold may at h
    simp [hno.1, hno.2.1, hno.2.2.1, hno.2.2.2.1, hno.2.2.2.2.1, hno.2.2.2.2.2] at h

mutual
theorem put_any : ∀ v : V, PutOk v
  | .mk k m t ks ns => by
    by_cases h4 : k = 4
    · subst h4; exact put_list m t ks ns (put_all ks)
    · by_cases h5 : k = 5
      · subst h5; exact put_object m t ks ns (put_all ks)
      · exact put_core k m t ks ns h4 h5
theorem put_all : ∀ (ks : List V), ∀ v ∈ ks, PutOk v
  | [], v, h => by simp at h
  | u :: r, v, h => by
    rcases List.mem_cons.1 h with e | h
    · rw [e]; exact put_any u
    · exact put_all r v h
end
end Go.Proofs.YtcmlppknfbndaaaDoor
