/-
  scantlingref06.Size and Vast. Conditions: each contract's own.
-/
import Derived.Test.YtcmlppknfbndaaaDoorField
import Derived.Test.YtcmlppknfbndaaaDoorSizeLaw
namespace Go.Proofs.YtcmlppknfbndaaaDoor
open Go.RowKit Js

def SizeOk (v : V) : Prop := ∀ (cs : List Value) (w : World) (ok : Nat → Prop) (d : Nat), d ≤ 30 → (∀ k, ok k → k < w.heap.size) → VAt w ok v cs → Lim v →
  Calls Tryd.prog 23 #[.agg cs.toArray, .int .i64 2000, .int .i64 d] w fun e w' => e = .returned (.int .i64 (sizeV 2000 d v)) ∧ Below w.heap.size w w'

theorem arr_size (s : List UInt8) : (ByteArray.mk s.toArray).size = s.length := by simp [ByteArray.size]

set_option maxHeartbeats 4000000 in
set_option maxRecDepth 100000 in
theorem size_core (k n : Int) (t : List UInt8) (ks : List V) (ns : List (List UInt8)) (hk : ∀ v ∈ ks, SizeOk v) : SizeOk (.mk k n t ks ns) := by
  intro cs w ok d hd hok hV hlim
  obtain ⟨kv, nv, css, rfl, hall, ⟨p, c, rfl, hc1, hc2, hkr⟩, ⟨q, d', rfl, hd1, hd2, hnr⟩⟩ := hV
  have hB1 : ∀ o, Below w.heap.size w (w.alloc o) := fun o => (Below.refl _ _).alloc (Nat.le_refl _) o
  have ht := hlim.1
  have hsz := arr_size t
  have HB1 := Lib.hid hB1
  cases d with
  | zero =>
    have HF : Hid (sizeV 2000 0 (.mk k n t ks ns) = 2001) := Lib.hid (by rw [sizeV]; rfl)
    unfold strv
    clear hB1 hall hkr hnr hok hlim hk
    go_enter Tryd.func23, Tryd.ntmps23
    go_wp2
    go_ret
    exact ⟨by rw [HF.out]; rfl, HB1.out _⟩
  | succ d =>
    obtain ⟨N2, hN2⟩ : ∃ N2, sizeV 2000 (d + 1) (.mk k n t ks ns) = N2 := ⟨_, rfl⟩
    rw [hN2]
    rw [sizeV] at hN2
    obtain ⟨N1, hN1⟩ : ∃ N1, sizeNames 2000 (1 + t.length) ns = N1 := ⟨_, rfl⟩
    rw [hN1] at hN2
    have hnl := sizeNames_le 2000 140737488355328 ns (1 + t.length) (fun s hs => by have := hlim.2.1 s hs; omega) (by omega)
    rw [hN1] at hnl
    have hN1a : 0 ≤ N1 := by omega
    have hN1b : N1 ≤ 140737488357329 := by have := hnl.2 (by omega); omega
    have HN1 := Lib.hid hN1
    have HN2 := Lib.hid hN2
    have HALL := Lib.hid hall
    have HKR := Lib.hid hkr
    have HNR := Lib.hid hnr
    have HOK := Lib.hid hok
    have HLIM := Lib.hid hlim
    have HK := Lib.hid hk
    have HBX : Hid (∀ W, Below (w.alloc (Obj.cells #[Value.int IntKind.u8 k, Value.int IntKind.i64 n, Value.string { data := t.toArray }, Value.slice p ks.length c, Value.slice q ns.length d'] 27)).heap.size (w.alloc (Obj.cells #[Value.int IntKind.u8 k, Value.int IntKind.i64 n, Value.string { data := t.toArray }, Value.slice p ks.length c, Value.slice q ns.length d'] 27)) W →
        Five W w.heap.size (.int .u8 k) (.int .i64 n) (.string ⟨t.toArray⟩) (.slice p ks.length c) (.slice q ns.length d')) := Lib.hid (fun W hb => (hb.block _ (by simp)).trans (heap_alloc_new w _))
    have hdz : ((d : Int) + 1 == 0) = false := by rw [beq_eq_false_iff_ne]; omega
    unfold strv
    clear hB1 hall hkr hnr hok hlim hk hN1 hN2 hnl
    go_enter Tryd.func23, Tryd.ntmps23
    go_wp2
    go_loopg [7, 8] ns.length (fun gg s7 s8 wr => ∃ (kk : Nat) (nn : Int), kk ≤ ns.length ∧ ns.length - kk ≤ gg ∧ s7 = .int .i64 nn ∧ s8 = .int .i64 kk ∧ 0 ≤ nn ∧ nn ≤ 140737488357329 ∧ Hid (sizeNames 2000 nn (ns.drop kk) = N1) ∧
      Hid (Below (w.alloc (Obj.cells #[Value.int IntKind.u8 k, Value.int IntKind.i64 n, Value.string { data := t.toArray }, Value.slice p ks.length c, Value.slice q ns.length d'] 27)).heap.size (w.alloc (Obj.cells #[Value.int IntKind.u8 k, Value.int IntKind.i64 n, Value.string { data := t.toArray }, Value.slice p ks.length c, Value.slice q ns.length d'] 27)) wr))
    case atStart => exact ⟨0, 1 + t.length, Nat.zero_le _, by omega, rfl, rfl, by omega, by omega, HN1, Lib.hid (Below.refl _ _)⟩
    case round =>
      obtain ⟨kk, nn, hkk, hg, rfl, rfl, hn0, hnb, A, BW⟩ := hrel
      obtain ⟨a0, a1, a2, a3, a4⟩ := (HBX.out _ BW.out).cells
      have hway : (kk < ns.length ∧ nn ≤ 2000) ∨ ((ns.length ≤ kk ∨ (kk < ns.length ∧ 2000 < nn)) ∧ nn = N1) := by
        have ha := A.out
        by_cases hlt : kk < ns.length
        · by_cases hle : nn ≤ 2000
          · exact .inl ⟨hlt, hle⟩
          · refine .inr ⟨.inr ⟨hlt, by omega⟩, ?_⟩
            rw [List.drop_eq_getElem_cons hlt, sizeNames, if_neg hle] at ha
            exact ha
        · refine .inr ⟨.inl (by omega), ?_⟩
          rw [List.drop_eq_nil_of_le (by omega), sizeNames] at ha
          exact ha
      rcases hway with ⟨hlt, hle⟩ | ⟨hend, hN⟩
      · have hltz : decide ((kk : Int) < (ns.length : Int)) = true := by simp only [decide_eq_true_eq]; omega
        have hlez : decide (nn ≤ 2000) = true := by simp only [decide_eq_true_eq]; omega
        obtain ⟨g, o, rfl, hg', hcells⟩ := HNR.out (by omega)
        have hsl := HLIM.out.2.1 ns[kk] (List.getElem_mem hlt)
        have hst : sizeNames 2000 nn (ns.drop kk) = sizeNames 2000 (nn + 1 + ns[kk].length) (ns.drop (kk + 1)) := by
          rw [List.drop_eq_getElem_cons hlt, sizeNames, if_pos hle]
        have hcell : wr.cell? ⟨g, o + kk, none⟩ = some (.string ⟨ns[kk].toArray⟩) := by
          have h1 := hcells kk (strv ns[kk]) (by simp [strs, hlt])
          exact (((HB1.out _).trans (BW.out.mono (HB1.out _).size)).cell (p := ⟨g, o + kk, none⟩) (HOK.out g hg')).trans h1
        obtain ⟨s, hs⟩ : ∃ s, ns[kk] = s := ⟨_, rfl⟩
        rw [hs] at hsl hst hcell
        have hsz2 := arr_size s
        have HA : Hid (sizeNames 2000 (nn + 1 + s.length) (ns.drop (kk + 1)) = N1) := Lib.hid (by rw [← hst]; exact A.out)
        have HG := Lib.hid hg
        have hwr : IntKind.i64.wrap ((kk : Int) + 1) = ((kk + 1 : Nat) : Int) := by
          rw [show ((kk + 1 : Nat) : Int) = (kk : Int) + 1 by omega]
          exact wrap_small _ (by omega) (by omega)
        clear hg' hcells hst hs hg
        go_wp2
        go_roundg (ns.length - (kk + 1))
        case measure => have := HG.out; omega
        case rel => exact ⟨kk + 1, nn + 1 + s.length, by omega, Nat.le_refl _, rfl, rfl, by omega, by omega, HA, BW⟩
      · subst hN
        have HBW := BW
        have HN2' : Hid (sizeKids 2000 d nn (ks.drop 0) = N2) := HN2
        clear BW A hg HN2 HN1
        rcases hend with hend | ⟨hend, hend2⟩
        all_goals
          go_wp2
          go_loopg [7, 9] ks.length (fun gg s7 s9 wr => ∃ (jj : Nat) (mm : Int), jj ≤ ks.length ∧ ks.length - jj ≤ gg ∧ s7 = .int .i64 mm ∧ s9 = .int .i64 jj ∧ 0 ≤ mm ∧ mm ≤ 281474976710656 ∧ Hid (sizeKids 2000 d mm (ks.drop jj) = N2) ∧
            Hid (Below (w.alloc (Obj.cells #[Value.int IntKind.u8 k, Value.int IntKind.i64 n, Value.string { data := t.toArray }, Value.slice p ks.length c, Value.slice q ns.length d'] 27)).heap.size (w.alloc (Obj.cells #[Value.int IntKind.u8 k, Value.int IntKind.i64 n, Value.string { data := t.toArray }, Value.slice p ks.length c, Value.slice q ns.length d'] 27)) wr))
          case atStart => exact ⟨0, nn, Nat.zero_le _, by omega, rfl, rfl, hn0, by omega, HN2', HBW⟩
          case round =>
            clear a0 a1 a2 a3 a4 HBW hend
            try clear hend2
            obtain ⟨jj, mm, hjj, hg, rfl, rfl, hm0, hmb, A, BW⟩ := hrel
            obtain ⟨a0, a1, a2, a3, a4⟩ := (HBX.out _ BW.out).cells
            have hway : (jj < ks.length ∧ mm ≤ 2000) ∨ ((ks.length ≤ jj ∨ (jj < ks.length ∧ 2000 < mm)) ∧ mm = N2) := by
              have ha := A.out
              by_cases hlt : jj < ks.length
              · by_cases hle : mm ≤ 2000
                · exact .inl ⟨hlt, hle⟩
                · refine .inr ⟨.inr ⟨hlt, by omega⟩, ?_⟩
                  rw [List.drop_eq_getElem_cons hlt, sizeKids, if_neg hle] at ha
                  exact ha
              · refine .inr ⟨.inl (by omega), ?_⟩
                rw [List.drop_eq_nil_of_le (by omega), sizeKids] at ha
                exact ha
            rcases hway with ⟨hlt, hle⟩ | ⟨hend, hN⟩
            · have hltz : decide ((jj : Int) < (ks.length : Int)) = true := by simp only [decide_eq_true_eq]; omega
              have hlez : decide (mm ≤ 2000) = true := by simp only [decide_eq_true_eq]; omega
              have hl := HALL.out.lengths
              have j1 : jj < css.length := by rw [hl.1]; exact hlt
              obtain ⟨g, o, rfl, hg', hcells⟩ := HKR.out (by omega)
              have hVk := VAll.get ks css HALL.out jj j1 hlt
              have hSk := HK.out ks[jj] (List.getElem_mem hlt)
              have hLk := LimAll.get ks HLIM.out.2.2 ks[jj] (List.getElem_mem hlt)
              have hst : sizeKids 2000 d mm (ks.drop jj) = sizeKids 2000 d (mm + sizeV 2000 d ks[jj]) (ks.drop (jj + 1)) := by
                rw [List.drop_eq_getElem_cons hlt, sizeKids, if_pos hle]
              have hBQ := (HB1.out _).trans (BW.out.mono (HB1.out _).size)
              have hc : ∀ i u, css[jj][i]? = some u → wr.cell? ⟨g, o + jj * 5 + i, none⟩ = some u := fun i u hu =>
                (hBQ.cell (p := ⟨g, o + jj * 5 + i, none⟩) (HOK.out g hg')).trans (row_five hcells hl.2 jj j1 i u hu)
              obtain ⟨v, hv⟩ : ∃ v, ks[jj] = v := ⟨_, rfl⟩
              rw [hv] at hVk hSk hLk hst
              obtain ⟨p5, c5, p6, c6, hcs, _, _, _, _⟩ := hVk.shape
              simp only [strv] at hcs
              rw [hcs] at hc hVk
              have c0 := hc 0 _ rfl
              have c1 := hc 1 _ rfl
              have c2 := hc 2 _ rfl
              have c3 := hc 3 _ rfl
              have c4 := hc 4 _ rfl
              simp only [Nat.add_zero] at c0
              have hsl := sizeV_le 2000 (by decide) d v hLk
              have hcall := hSk _ wr ok d (by omega) (fun k hk => Nat.lt_of_lt_of_le (HOK.out k hk) hBQ.size) (VAt.same (fun k hk => hBQ.block k (HOK.out k hk)) _ _ hVk) hLk
              obtain ⟨sz, hsz3⟩ : ∃ z, sizeV 2000 d v = z := ⟨_, rfl⟩
              rw [hsz3] at hsl hst hcall
              have hsz0 : 0 ≤ sz := hsl.1
              have hszb : sz ≤ 140737488417359 := by have := hsl.2; omega
              have HA : Hid (sizeKids 2000 d (mm + sz) (ks.drop (jj + 1)) = N2) := Lib.hid (by rw [← hst]; exact A.out)
              have HG := Lib.hid hg
              have HC := Lib.hid hcall
              have hwr : IntKind.i64.wrap ((jj : Int) + 1) = ((jj + 1 : Nat) : Int) := by
                rw [show ((jj + 1 : Nat) : Int) = (jj : Int) + 1 by omega]
                exact wrap_small _ (by omega) (by omega)
              clear hg' hcells hVk hSk hLk hst hc hv hcs hsl hcall hsz3 hg hl hBQ
              go_wp2_with fail
              refine HC.out.mono ?_
              rintro e wn ⟨rfl, hbn⟩
              have HBN := Lib.hid (BW.out.trans (hbn.mono BW.out.size))
              clear hbn a0 a1 a2 a3 a4 c0 c1 c2 c3 c4 HC
              go_wp2
              go_roundg (ks.length - (jj + 1))
              case measure => have := HG.out; omega
              case rel => exact ⟨jj + 1, mm + sz, by omega, Nat.le_refl _, rfl, rfl, by omega, by omega, HA, HBN⟩
            · subst hN
              have HBF := Lib.hid ((HB1.out _).trans (BW.out.mono (HB1.out _).size))
              clear BW A hg
              rcases hend with hend | ⟨hend, hend2⟩
              all_goals
                go_wp2
                go_ret
                exact ⟨rfl, HBF.out⟩

mutual
theorem size_any : ∀ v : V, SizeOk v
  | .mk k n t ks ns => size_core k n t ks ns (size_all ks)
theorem size_all : ∀ (ks : List V), ∀ v ∈ ks, SizeOk v
  | [], v, h => by simp at h
  | u :: r, v, h => by
    rcases List.mem_cons.1 h with e | h
    · rw [e]; exact size_any u
    · exact size_all r v h
end

set_option maxRecDepth 100000 in
theorem vast_any (v : V) (cs : List Value) (w : World) (ok : Nat → Prop) (hok : ∀ k, ok k → k < w.heap.size) (hV : VAt w ok v cs) (hlim : Lim v) :
    Calls Tryd.prog 12 #[.agg cs.toArray] w fun e w' => e = .returned (.bool (decide (2000 < sizeV 2000 30 v))) ∧ Below w.heap.size w w' := by
  obtain ⟨p, c, q, d, hcs, _, _, _, _⟩ := hV.shape
  simp only [strv] at hcs
  have hB0 : Below w.heap.size w (w.alloc (Obj.cells cs.toArray 27)) := (Below.refl _ _).alloc (Nat.le_refl _) _
  have hcall := size_any v cs (w.alloc (Obj.cells cs.toArray 27)) ok 30 (by omega) (fun k hk => by simp; have := hok k hk; omega) (VAt.same (fun k hk => Below.heap_alloc _ _ _ (hok k hk)) _ _ hV) hlim
  subst hcs
  have HC := Lib.hid hcall
  have HB := Lib.hid hB0
  obtain ⟨b, hb⟩ : ∃ b, sizeV 2000 30 v = b := ⟨_, rfl⟩
  rw [hb] at HC ⊢
  clear hcall hB0 hV hlim hok hb
  go_enter Tryd.func12, Tryd.ntmps12
  go_wp2_with fail
  refine HC.out.mono ?_
  rintro e w1 ⟨rfl, hb1⟩
  have HB1 := Lib.hid (HB.out.trans (hb1.mono (by simp)))
  clear hb1
  go_wp2
  go_ret
  exact ⟨rfl, HB1.out⟩
end Go.Proofs.YtcmlppknfbndaaaDoor
