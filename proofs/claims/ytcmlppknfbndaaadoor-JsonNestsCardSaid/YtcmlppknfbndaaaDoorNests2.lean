/-
  The law JsonNests, walked. Conditions: each contract's own.
-/
import Derived.Test.YtcmlppknfbndaaaDoorNests
namespace Go.Proofs.YtcmlppknfbndaaaDoor
open Go.RowKit Js

theorem NIn.start {obj : Bool} (w : World) : NIn w (nestV obj 0) [] [] (.slice none 0 0) (.slice none 0 0) (w.alloc (.cells #[.int .u8 2, .int .i64 7, .string ⟨#[]⟩, .slice none 0 0, .slice none 0 0] 27)) := by
  refine ⟨(Below.refl _ _).alloc (Nat.le_refl _) _, ⟨none, 0, none, 0, heap_alloc_new w _, at_leaf _ _ _ _ _⟩, own_nil _ _ _, own_nil _ _ _, fun g h => by cases h⟩

theorem byteCells_len (l : List UInt8) : (Lib.byteCells l).length = l.length * 1 := by simp [Lib.byteCells]
theorem byteCells_one (l : List UInt8) : ∀ u ∈ Lib.byteCells l, u.oneCell' = true := fun u hu => by
  simp only [Lib.byteCells, List.mem_map] at hu
  obtain ⟨b, _, rfl⟩ := hu
  rfl
theorem NOk.lt {N : Nat} {w : World} {k : Nat} (h : NOk N w k) : k < w.heap.size := by
  obtain ⟨_, o, h2, _⟩ := h
  exact (Array.getElem?_eq_some_iff.1 h2).1
theorem new_at (W : World) (n : Nat) (h : W.heap.size = n) (arr : Array Value) (t : TypeId) : ∀ j u, arr.toList[j]? = some u → (W.alloc (.cells arr t)).cell? ((⟨n, 0, none⟩ : Addr).add j) = some u := by
  subst h; exact new_cells W arr t
theorem size_put_alloc (w : World) (g : Nat) (o : Obj) (a b c d e : Value) : ((((((w.setCell ⟨g, 0, none⟩ a).setCell ⟨g, 1, none⟩ b).setCell ⟨g, 2, none⟩ c).setCell ⟨g, 3, none⟩ d).setCell ⟨g, 4, none⟩ e).alloc o).heap.size = w.heap.size + 1 := by
  have := size_five w g a b c d e
  simp only [World.alloc, Array.size_push]
  omega
/-- Stores into a block that was there, and a block laid behind them: the walk's own order. -/
theorem put_alloc (w : World) (g : Nat) (hg : g < w.heap.size) (o : Obj) (a b c d e : Value) : (((((((w.alloc o).setCell ⟨g, 0, none⟩ a).setCell ⟨g, 1, none⟩ b).setCell ⟨g, 2, none⟩ c).setCell ⟨g, 3, none⟩ d).setCell ⟨g, 4, none⟩ e)) =
    (((((w.setCell ⟨g, 0, none⟩ a).setCell ⟨g, 1, none⟩ b).setCell ⟨g, 2, none⟩ c).setCell ⟨g, 3, none⟩ d).setCell ⟨g, 4, none⟩ e).alloc o := by
  have key : ∀ (W : World) (n i : Nat) (u : Value), n < W.heap.size → (W.alloc o).setCell ⟨n, i, none⟩ u = (W.setCell ⟨n, i, none⟩ u).alloc o := fun W n i u hp => World.setCell_alloc_past (w := W) o n i u hp
  rw [key _ _ _ _ hg, key _ _ _ _ (by simpa [size_setCell1] using hg), key _ _ _ _ (by simpa [size_setCell1] using hg), key _ _ _ _ (by simpa [size_setCell1] using hg), key _ _ _ _ (by simpa [size_setCell1] using hg)]

set_option maxHeartbeats 1000000 in
set_option maxRecDepth 100000 in
theorem json_nests_list (x : Nat) (hx : x < 256) (w : World) (hE : Env w) (hD : Deb w) :
    Calls Tryd.prog 5 #[.int .u8 x, .bool false] w fun e w' => e = .returned (.bool true) ∧ Below w.heap.size w w' := by
  have HE := Lib.hid hE
  have HD := Lib.hid hD
  have HDL := Lib.hid (cell_lt hD)
  clear hE hD
  obtain ⟨i0, hi, hz0, hz1, hz2⟩ := info_parts info8
  have HST := Lib.hid (NIn.start (obj := false) w)
  go_enter Tryd.func5, Tryd.ntmps5
  go_wp2_with fail
  go_loopg [7, 8, 9] 12 (fun gg s7 s8 s9 wr => ∃ kk : Nat, kk ≤ 1 + x % 12 ∧ (1 + x % 12) - kk ≤ gg ∧ s9 = .int .i64 kk ∧ Hid (NIn w (nestV false kk) (opens false kk) (closes false kk) s7 s8 wr))
  case atStart => exact ⟨0, Nat.zero_le _, by omega, rfl, HST⟩
  case round =>
    obtain ⟨kk, hkk, hg, rfl, A⟩ := hrel
    by_cases hlt : kk < 1 + x % 12
    · have hltz : decide ((kk : Int) < 1 + (x : Int) % 12) = true := by simp only [decide_eq_true_eq]; omega
      obtain ⟨p, c, q, d, hF, hV⟩ := A.out.box
      obtain ⟨a0, a1, a2, a3, a4⟩ := hF.cells
      obtain ⟨f0, f1, f2, f3, f4⟩ := hF.free
      have hlt0 := A.out.lt
      have hlist := A.out.list_at hV
      obtain ⟨v, hv⟩ : ∃ v, nestV false kk = v := ⟨_, rfl⟩
      obtain ⟨Bs, hBs⟩ : ∃ l, opens false kk = l := ⟨_, rfl⟩
      obtain ⟨Ts, hTs⟩ : ∃ l, closes false kk = l := ⟨_, rfl⟩
      have hbl := opens_len false kk
      have htl := closes_len false kk
      have HVN : Hid (nestV false (kk + 1) = .mk 4 0 [] [v] []) := Lib.hid (by rw [nest_next, hv]; rfl)
      have HBN : Hid (opens false (kk + 1) = Bs ++ [91]) := Lib.hid (by rw [opens_next, hBs]; rfl)
      have HTN : Hid (closes false (kk + 1) = Ts ++ [93]) := Lib.hid (by rw [closes_next, hTs]; rfl)
      rw [hv] at A hF hV hlist a0 a1 a2 a3 a4
      rw [hBs] at A hbl
      rw [hTs] at A htl
      have hW3 := ((A.out.alloc (.cells #[.int .u8 v.kind, .int .i64 v.num, .string ⟨v.text.toArray⟩, .slice p v.kids.length c, .slice q v.names.length d] 27)).put_ (v' := .mk 4 0 [] [v] []) hlist)
      rw [put_alloc _ _ hlt0] at hW3
      have HS3 := size_put_alloc wr w.heap.size (.cells #[.int .u8 v.kind, .int .i64 v.num, .string ⟨v.text.toArray⟩, .slice p v.kids.length c, .slice q v.names.length d] 27) (.int .u8 4) (.int .i64 0) (.string ⟨#[]⟩) (.slice (some ⟨wr.heap.size, 0, none⟩) 1 1) (.slice none 0 0)
      have HS3 := Lib.hid HS3
      have HW3 := Lib.hid hW3
      have HLB : Hid (Bs.length + 1 ≤ maxLen ∧ (Bs.length + 1) * 1 ≤ 140737488355328) := Lib.hid (by unfold maxLen; omega)
      have HLT : Hid (Ts.length + 1 ≤ maxLen ∧ (Ts.length + 1) * 1 ≤ 140737488355328) := Lib.hid (by unfold maxLen; omega)
      have HG := Lib.hid hg
      have hwr : IntKind.i64.wrap ((kk : Int) + 1) = ((kk + 1 : Nat) : Int) := by
        rw [show ((kk + 1 : Nat) : Int) = (kk : Int) + 1 by omega]
        exact wrap_small _ (by omega) (by omega)
      clear hW3 hF hV hv hBs hTs hbl htl hlist hg
      go_wp2_with (first | (at_builtin; refine wpList_append_fresh _ rfl _ _ 22 rfl (w.heap.size + 1) 5 i0 (.int .u8 0) 1 1 Tryd.underlying22 hi hz0 hz1 hz2 rfl (by decide) u8 Ts.length _ rfl (H4.out.alloc _).t ⟨w4.heap.size, 0, none⟩ 1 1 [.int .u8 93] rfl rfl (new_cells w4 #[.int .u8 93] _) (one_of _) HLT.out.1 HLT.out.2 (H4.out.alloc _).lt ?_; intro v5 w5 hv' hg' hf'; have H5 := Lib.hid ((H4.out.alloc _).app_t (x := [93]) hv' hg' hf'); clear hv' hg' hf') | (at_builtin; refine wpList_append_fresh _ rfl _ _ 22 rfl (w.heap.size + 1) 5 i0 (.int .u8 0) 1 1 Tryd.underlying22 hi hz0 hz1 hz2 rfl (by decide) u7 Bs.length _ rfl (HW3.out.alloc _).b ⟨wr.heap.size + 1, 0, none⟩ 1 1 [.int .u8 91] rfl rfl (new_at _ _ HS3.out #[.int .u8 91] _) (one_of _) HLB.out.1 HLB.out.2 (HW3.out.alloc _).lt ?_; intro v4 w4 hv' hg' hf'; have H4 := Lib.hid ((HW3.out.alloc _).app_b (x := [91]) hv' hg' hf'); clear hv' hg' hf'))
      go_roundg (1 + x % 12 - (kk + 1))
      case measure => have := HG.out; omega
      case rel => exact ⟨kk + 1, by omega, Nat.le_refl _, rfl, by rw [HVN.out, HBN.out, HTN.out]; exact H5⟩
    · obtain rfl : kk = 1 + x % 12 := by omega
      have hltz : decide (((1 + x % 12 : Nat) : Int) < 1 + (x : Int) % 12) = false := by simp only [decide_eq_false_iff_not]; omega
      obtain ⟨K, hK⟩ : ∃ K, 1 + x % 12 = K := ⟨_, rfl⟩
      have hK1 : 1 ≤ K := by omega
      have hK12 : K ≤ 12 := by omega
      have hKx : (1 : Int) + (x : Int) % 12 = (K : Int) := by omega
      rw [hK] at A
      obtain ⟨v, hv⟩ : ∃ v, nestV false K = v := ⟨_, rfl⟩
      obtain ⟨Bs, hBs⟩ : ∃ l, opens false K = l := ⟨_, rfl⟩
      obtain ⟨Ts, hTs⟩ : ∃ l, closes false K = l := ⟨_, rfl⟩
      have hbl := opens_len false K
      have htl := closes_len false K
      have HNB : Hid (Bs ++ [55] ++ Ts = nestB false K) := Lib.hid (by rw [← hBs, ← hTs]; rfl)
      have HFIT := Lib.hid (fitV_of _ (nest_fits false K))
      have HPL : Hid (6 * (put (nestV false K)).length + 21 ≤ 140737488355328) := Lib.hid (by have := nest_put false K hK12; omega)
      rw [hv] at A HFIT HPL
      rw [hBs] at A hbl
      rw [hTs] at A htl
      obtain ⟨p, c, q, d, hF, hV⟩ := A.out.box
      obtain ⟨gt, capt, hu8⟩ : ∃ g cap, u8 = .slice (some ⟨g, 0, none⟩) Ts.length cap := by
        rcases A.out.t.2 with ⟨_, h0⟩ | ⟨g, cap, cur, e, _⟩
        · omega
        · exact ⟨g, cap, e⟩
      subst hu8
      have HLB : Hid (Bs.length + 1 ≤ maxLen ∧ (Bs.length + 1) * 1 ≤ 140737488355328) := Lib.hid (by unfold maxLen; omega)
      have HLT : Hid ((Bs ++ [55]).length + Ts.length ≤ maxLen ∧ ((Bs ++ [55]).length + Ts.length) * 1 ≤ 140737488355328) := Lib.hid (by simp only [List.length_append, List.length_cons, List.length_nil]; unfold maxLen; omega)
      have HF := Lib.hid hF
      have HV := Lib.hid hV
      have HKE := Lib.hid hK
      have HKX := Lib.hid hKx
      have HVE := Lib.hid hv
      clear hF hV hK hKx hv hBs hTs hbl htl hg hlt
      go_wp2_with (first | (at_builtin; refine wpList_append_fresh _ rfl _ _ 22 rfl (w.heap.size + 1) 5 i0 (.int .u8 0) 1 1 Tryd.underlying22 hi hz0 hz1 hz2 rfl (by decide) v4 (Bs ++ [55]).length _ rfl H4.out.b ⟨gt, 0, none⟩ Ts.length capt (Lib.byteCells Ts) rfl (byteCells_len Ts) (World.ownsRow.cells H4.out.t (g := gt) rfl) (byteCells_one Ts) HLT.out.1 HLT.out.2 H4.out.lt ?_; intro v5 w5 hv' hg' hf'; have H5 := Lib.hid (H4.out.app_b (x := Ts) hv' hg' hf'); clear hv' hg' hf') | (at_builtin; refine wpList_append_fresh _ rfl _ _ 22 rfl (w.heap.size + 1) 5 i0 (.int .u8 0) 1 1 Tryd.underlying22 hi hz0 hz1 hz2 rfl (by decide) u7 Bs.length _ rfl (A.out.alloc _).b ⟨wr.heap.size, 0, none⟩ 1 1 [.int .u8 55] rfl rfl (new_cells wr #[.int .u8 55] _) (one_of _) HLB.out.1 HLB.out.2 (A.out.alloc _).lt ?_; intro v4 w4 hv' hg' hf'; have H4 := Lib.hid ((A.out.alloc _).app_b (x := [55]) hv' hg' hf'); clear hv' hg' hf') | fail)
      have h5 := H5.out
      rw [HNB.out] at h5
      obtain ⟨m, hm⟩ : ∃ m, nestB false K = m := ⟨_, rfl⟩
      have hpar := (fun h1 h2 => nest_few false K h1 h2 : 1 ≤ K → K ≤ 8 → _)
      have hmany := (fun h1 h2 => nest_many false K h1 h2 : 9 ≤ K → K ≤ 12 → _)
      rw [hm] at h5
      rw [hm, HVE.out] at hpar hmany
      obtain ⟨g5, hs5, hg5⟩ := slice_of_own h5.b
      have hne : m ≠ [] := by rw [← hm]; simp [nestB]
      have HS5 := Lib.hid hs5
      have HG5 := Lib.hid (hg5 hne)
      have HB5 := Lib.hid h5.below
      have HN5 := Lib.hid h5.lt
      have HE5 := Lib.hid (HE.out.below h5.below HE.out.size)
      obtain ⟨p5, c5, q5, d5, hF5, hV5⟩ := h5.box
      have HF5 := Lib.hid hF5
      have HV5 := Lib.hid hV5
      obtain ⟨pm, cm, hv5, hlc5, hcm5⟩ := hs5.shape _ rfl
      subst hv5
      have HPAR := Lib.hid hpar
      have HMANY := Lib.hid hmany
      clear h5 hpar hmany hm hs5 hg5 hne hF5 hV5 H5 H4
      by_cases h8 : K ≤ 8
      · obtain ⟨n1, n2, n3⟩ := HPAR.out hK1 h8
        have ht8 : decide ((8 : Int) < 1 + (x : Int) % 12) = false := by have := HKX.out; simp only [decide_eq_false_iff_not]; omega
        have HPR := Lib.hid n2
        have HMY := Lib.hid n3
        have hp := parse_any g5 m _ w5 HS5.out HG5.out.2 HE5.out
        rw [n1] at hp
        refine hp.mono ?_
        clear hp n1 n2 n3 HPAR HMANY
        rintro e w6 ⟨cs, rfl, hVu, hb6⟩
        obtain ⟨p3, c3, p4, c4, hcs, _, _, _, _⟩ := hVu.shape
        simp only [strv] at hcs
        subst hcs
        have HB56 := Lib.hid hb6.size
        have HB6 := Lib.hid (hb6.alloc hb6.size (.cells #[.int .u8 v.kind, .int .i64 v.num, .string ⟨v.text.toArray⟩, .slice p3 v.kids.length c3, .slice p4 v.names.length c4] 27))
        have HZ6 : Hid ((w6.alloc (.cells #[.int .u8 v.kind, .int .i64 v.num, .string ⟨v.text.toArray⟩, .slice p3 v.kids.length c3, .slice p4 v.names.length c4] 27)).heap.size = w6.heap.size + 1) := Lib.hid (by simp)
        have HBU := Lib.hid (heap_alloc_new w6 (.cells #[.int .u8 v.kind, .int .i64 v.num, .string ⟨v.text.toArray⟩, .slice p3 v.kids.length c3, .slice p4 v.names.length c4] 27))
        have HU6 := Lib.hid (VAt.mono (ok' := fun k => k < w6.heap.size) (fun k hk => hk.2) _ _ (VAt.same (w' := (w6.alloc (.cells #[.int .u8 v.kind, .int .i64 v.num, .string ⟨v.text.toArray⟩, .slice p3 v.kids.length c3, .slice p4 v.names.length c4] 27))) (fun k hk => Below.heap_alloc _ _ _ hk.2) _ _ hVu))
        have a0 := (HF5.out.same (HB6.out.block _ HN5.out)).cells.1
        have a1 := (HF5.out.same (HB6.out.block _ HN5.out)).cells.2.1
        have a2 := (HF5.out.same (HB6.out.block _ HN5.out)).cells.2.2.1
        have a3 := (HF5.out.same (HB6.out.block _ HN5.out)).cells.2.2.2.1
        have a4 := (HF5.out.same (HB6.out.block _ HN5.out)).cells.2.2.2.2
        clear hVu hb6
        go_wp2_with fail
        generalize (w6.alloc (.cells #[.int .u8 v.kind, .int .i64 v.num, .string ⟨v.text.toArray⟩, .slice p3 v.kids.length c3, .slice p4 v.names.length c4] 27)) = u6 at *
        clear a0 a1 a2 a3 a4
        have HVB : Hid (∀ W, Below u6.heap.size u6 W → Five W w.heap.size (.int .u8 v.kind) (.int .i64 v.num) (.string ⟨v.text.toArray⟩) (.slice p5 v.kids.length c5) (.slice q5 v.names.length d5)) := Lib.hid (fun W h => HF5.out.same ((HB6.out.trans (h.mono HB6.out.size)).block _ HN5.out))
        have HVA : Hid (∀ W, Below u6.heap.size u6 W → VAt W (fun k => k < w6.heap.size) v [.int .u8 v.kind, .int .i64 v.num, .string ⟨v.text.toArray⟩, .slice p5 v.kids.length c5, .slice q5 v.names.length d5]) := Lib.hid (fun W h => VAt.mono (fun k hk => Nat.lt_of_lt_of_le hk.lt HB56.out) _ _ (VAt.same (fun k hk => (HB6.out.trans (h.mono HB6.out.size)).block k hk.lt) _ _ HV5.out))
        have HEu6 := Lib.hid (HE5.out.below HB6.out HE5.out.size)
        have HBw6 := Lib.hid (HB5.out.trans (HB6.out.mono HB5.out.size))
        have HDu6 := Lib.hid (HD.out.below HBw6.out HDL.out)
        have HDL6 := Lib.hid (cell_lt HDu6.out)
        obtain ⟨a0, a1, a2, a3, a4⟩ := (HVB.out u6 (Below.refl _ _)).cells
        have HUB : Hid (∀ W, Below u6.heap.size u6 W → Five W w6.heap.size (.int .u8 v.kind) (.int .i64 v.num) (.string ⟨v.text.toArray⟩) (.slice p3 v.kids.length c3) (.slice p4 v.names.length c4)) := Lib.hid (fun W h => Five.same (w := u6) HBU.out (h.block _ (by have := HZ6.out; omega)))
        have HUA : Hid (∀ W, Below u6.heap.size u6 W → VAt W (fun k => k < w6.heap.size) v [.int .u8 v.kind, .int .i64 v.num, .string ⟨v.text.toArray⟩, .slice p3 v.kids.length c3, .slice p4 v.names.length c4]) := Lib.hid (fun W h => VAt.same (fun k hk => h.block k (by have := HZ6.out; omega)) _ _ HU6.out)
        have hp := print_any v _ u6 (fun k => k < w6.heap.size) (fun k hk => by have := HZ6.out; omega) (HVA.out u6 (Below.refl _ _)) HFIT.out HEu6.out HDu6.out HPL.out
        rw [HPR.out] at hp
        refine hp.mono ?_
        clear hp a0 a1 a2 a3 a4
        rintro e w7 ⟨v7, rfl, ho7, hf7⟩
        obtain ⟨g7, hs7, hg7⟩ := slice_of_own ho7
        obtain ⟨p7, c7, hv7, hlc7, hcm7⟩ := hs7.shape _ rfl
        subst hv7
        have HB7 := Lib.hid hf7.below
        have HS7 := Lib.hid hs7
        clear ho7 hf7 hs7 hg7
        obtain ⟨a0, a1, a2, a3, a4⟩ := (HVB.out _ HB7.out).cells
        obtain ⟨b0, b1, b2, b3, b4⟩ := (HUB.out _ HB7.out).cells
        have hp := same_any v v [.int .u8 v.kind, .int .i64 v.num, .string ⟨v.text.toArray⟩, .slice p3 v.kids.length c3, .slice p4 v.names.length c4] [.int .u8 v.kind, .int .i64 v.num, .string ⟨v.text.toArray⟩, .slice p5 v.kids.length c5, .slice q5 v.names.length d5] w7 (fun k => k < w6.heap.size) (fun k hk => by have := HZ6.out; have := HB7.out.size; omega) (HUA.out _ HB7.out) (HVA.out _ HB7.out)
        rw [same_refl v] at hp
        have HSM := Lib.hid hp
        clear hp
        go_wp2_with fail
        refine HSM.out.mono ?_
        rintro e w8 ⟨rfl, hb8⟩
        have HB8 := Lib.hid (HB7.out.trans (hb8.mono HB7.out.size))
        have HS78 := Lib.hid (HS7.out.same (fun hne => hb8.block _ (HS7.out.lt hne)))
        clear hb8 a0 a1 a2 a3 a4 b0 b1 b2 b3 b4 HSM
        have hp := bytes_same rfl g5 g7 m m _ _ w8 (HS5.out.same (fun hne => (HB6.out.trans (HB8.out.mono HB6.out.size)).block _ HG5.out.2)) HS78.out
        rw [show decide (m = m) = true from decide_eq_true rfl] at hp
        have HSB := Lib.hid hp
        clear hp
        go_wp2_with fail
        refine HSB.out.mono ?_
        rintro e wb ⟨rfl, hb8⟩
        have HBb := Lib.hid (HB8.out.trans (hb8.mono HB8.out.size))
        clear hb8 HSB
        obtain ⟨a0, a1, a2, a3, a4⟩ := (HVB.out _ HBb.out).cells
        have hp := May_any v _ wb (fun k => k < w6.heap.size) (fun k hk => by have := HZ6.out; have := HBb.out.size; omega) (HVA.out _ HBb.out) HFIT.out (HEu6.out.below HBb.out HEu6.out.size)
        rw [HMY.out] at hp
        have HM := Lib.hid hp
        clear hp
        go_wp2_with fail
        refine HM.out.mono ?_
        rintro e w9 ⟨rfl, hb9⟩
        have HB9 := Lib.hid (HBb.out.trans (hb9.mono HBb.out.size))
        clear hb9 a0 a1 a2 a3 a4 HM
        go_wp2_with (first | (go_at_call 6; refine (works_any _ (HEu6.out.below HB9.out HEu6.out.size) (HDu6.out.below HB9.out HDL6.out)).mono ?_; rintro e w10 ⟨rfl, hb10⟩; have HB10 := Lib.hid (HB9.out.trans (hb10.mono HB9.out.size)); clear hb10))
        go_ret
        exact ⟨rfl, HBw6.out.trans (HB10.out.mono HBw6.out.size)⟩
      · obtain ⟨n1, n2, n3⟩ := HMANY.out (by omega) hK12
        have ht8 : decide ((8 : Int) < 1 + (x : Int) % 12) = true := by have := HKX.out; simp only [decide_eq_true_eq]; omega
        have HPR := Lib.hid n2
        have HMY := Lib.hid n3
        have hp := parse_any g5 m _ w5 HS5.out HG5.out.2 HE5.out
        rw [n1] at hp
        refine hp.mono ?_
        clear hp n1 n2 n3 HPAR HMANY
        rintro e w6 ⟨cs, rfl, hVu, hb6⟩
        obtain ⟨p3, c3, p4, c4, hcs, _, _, _, _⟩ := hVu.shape
        replace hcs : cs = [.int .u8 0, .int .i64 0, .string ⟨#[]⟩, .slice p3 0 c3, .slice p4 0 c4] := hcs
        subst hcs
        have HB56 := Lib.hid hb6.size
        have HB6 := Lib.hid (hb6.alloc hb6.size (.cells #[.int .u8 0, .int .i64 0, .string ⟨#[]⟩, .slice p3 0 c3, .slice p4 0 c4] 27))
        have HZ6 : Hid ((w6.alloc (.cells #[.int .u8 0, .int .i64 0, .string ⟨#[]⟩, .slice p3 0 c3, .slice p4 0 c4] 27)).heap.size = w6.heap.size + 1) := Lib.hid (by simp)
        have HBU := Lib.hid (heap_alloc_new w6 (.cells #[.int .u8 0, .int .i64 0, .string ⟨#[]⟩, .slice p3 0 c3, .slice p4 0 c4] 27))
        have a0 := (HF5.out.same (HB6.out.block _ HN5.out)).cells.1
        have a1 := (HF5.out.same (HB6.out.block _ HN5.out)).cells.2.1
        have a2 := (HF5.out.same (HB6.out.block _ HN5.out)).cells.2.2.1
        have a3 := (HF5.out.same (HB6.out.block _ HN5.out)).cells.2.2.2.1
        have a4 := (HF5.out.same (HB6.out.block _ HN5.out)).cells.2.2.2.2
        clear hVu hb6
        go_wp2_with fail
        generalize (w6.alloc (.cells #[.int .u8 0, .int .i64 0, .string ⟨#[]⟩, .slice p3 0 c3, .slice p4 0 c4] 27)) = u6 at *
        clear a0 a1 a2 a3 a4
        have HVB : Hid (∀ W, Below u6.heap.size u6 W → Five W w.heap.size (.int .u8 v.kind) (.int .i64 v.num) (.string ⟨v.text.toArray⟩) (.slice p5 v.kids.length c5) (.slice q5 v.names.length d5)) := Lib.hid (fun W h => HF5.out.same ((HB6.out.trans (h.mono HB6.out.size)).block _ HN5.out))
        have HVA : Hid (∀ W, Below u6.heap.size u6 W → VAt W (fun k => k < w6.heap.size) v [.int .u8 v.kind, .int .i64 v.num, .string ⟨v.text.toArray⟩, .slice p5 v.kids.length c5, .slice q5 v.names.length d5]) := Lib.hid (fun W h => VAt.mono (fun k hk => Nat.lt_of_lt_of_le hk.lt HB56.out) _ _ (VAt.same (fun k hk => (HB6.out.trans (h.mono HB6.out.size)).block k hk.lt) _ _ HV5.out))
        have HEu6 := Lib.hid (HE5.out.below HB6.out HE5.out.size)
        have HBw6 := Lib.hid (HB5.out.trans (HB6.out.mono HB5.out.size))
        have HDu6 := Lib.hid (HD.out.below HBw6.out HDL.out)
        have HDL6 := Lib.hid (cell_lt HDu6.out)
        obtain ⟨a0, a1, a2, a3, a4⟩ := (HVB.out u6 (Below.refl _ _)).cells
        have HUB : Hid (∀ W, Below u6.heap.size u6 W → Five W w6.heap.size (.int .u8 0) (.int .i64 0) (.string ⟨#[]⟩) (.slice p3 0 c3) (.slice p4 0 c4)) := Lib.hid (fun W h => Five.same (w := u6) HBU.out (h.block _ (by have := HZ6.out; omega)))
        have hp := print_any v _ u6 (fun k => k < w6.heap.size) (fun k hk => by have := HZ6.out; omega) (HVA.out u6 (Below.refl _ _)) HFIT.out HEu6.out HDu6.out HPL.out
        rw [HPR.out] at hp
        refine hp.mono ?_
        clear hp a0 a1 a2 a3 a4
        rintro e w7 ⟨v7, rfl, ho7, hf7⟩
        have HB7 := Lib.hid hf7.below
        clear ho7 hf7
        obtain ⟨a0, a1, a2, a3, a4⟩ := (HVB.out _ HB7.out).cells
        have hp := May_any v _ w7 (fun k => k < w6.heap.size) (fun k hk => by have := HZ6.out; have := HB7.out.size; omega) (HVA.out _ HB7.out) HFIT.out (HEu6.out.below HB7.out HEu6.out.size)
        rw [HMY.out] at hp
        have HM := Lib.hid hp
        clear hp
        go_wp2_with fail
        refine HM.out.mono ?_
        rintro e w9 ⟨rfl, hb9⟩
        have HB9 := Lib.hid (HB7.out.trans (hb9.mono HB7.out.size))
        clear hb9 a0 a1 a2 a3 a4 HM
        obtain ⟨b0, b1, b2, b3, b4⟩ := (HUB.out _ HB9.out).cells
        go_wp2_with (first | (go_at_call 6; refine (works_any _ (HEu6.out.below HB9.out HEu6.out.size) (HDu6.out.below HB9.out HDL6.out)).mono ?_; rintro e w10 ⟨rfl, hb10⟩; have HB10 := Lib.hid (HB9.out.trans (hb10.mono HB9.out.size)); clear hb10))
        go_ret
        exact ⟨rfl, HBw6.out.trans (HB10.out.mono HBw6.out.size)⟩
end Go.Proofs.YtcmlppknfbndaaaDoor
