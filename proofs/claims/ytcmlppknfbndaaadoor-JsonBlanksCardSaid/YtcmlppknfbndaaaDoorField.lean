/-
  json's Field. Conditions: each contract's own.
-/
import Derived.Test.YtcmlppknfbndaaaDoorSame
namespace Go.Proofs.YtcmlppknfbndaaaDoor
open Go.RowKit Js

/-- Where a name stands first, from a place on; -1: nowhere. -/
def nameFrom : List (List UInt8) → List UInt8 → Nat → Int
  | [], _, _ => -1
  | z :: zs, s, i => if z = s then i else nameFrom zs s (i + 1)
def nameIdx (ns : List (List UInt8)) (s : List UInt8) : Int := nameFrom ns s 0
/-- The field of an object that bears a name. -/
def fld (v : V) (s : List UInt8) : Option V := if v.kind = 5 ∧ 0 ≤ nameIdx v.names s then v.kids[(nameIdx v.names s).toNat]? else none

theorem arr_inj {a b : List UInt8} : ((⟨a.toArray⟩ : ByteArray) = ⟨b.toArray⟩) ↔ a = b := by
  constructor
  · intro h
    injection h with h
    injection h
  · intro h; rw [h]
theorem idxFrom_arrs (s : List UInt8) : ∀ (ns : List (List UInt8)) (i : Nat), Lib.idxFromS (arrs ns) ⟨s.toArray⟩ i = nameFrom ns s i
  | [], i => rfl
  | z :: zs, i => by
    show (if (⟨z.toArray⟩ : ByteArray) = ⟨s.toArray⟩ then (i : Int) else Lib.idxFromS (arrs zs) ⟨s.toArray⟩ (i + 1)) = if z = s then (i : Int) else nameFrom zs s (i + 1)
    rw [idxFrom_arrs s zs (i + 1)]
    by_cases h : z = s
    · rw [if_pos h, if_pos (arr_inj.2 h)]
    · rw [if_neg h, if_neg (fun e => h (arr_inj.1 e))]
theorem nameFrom_range (s : List UInt8) : ∀ (ns : List (List UInt8)) (i : Nat), nameFrom ns s i = -1 ∨ ((i : Int) ≤ nameFrom ns s i ∧ nameFrom ns s i < i + ns.length)
  | [], i => .inl rfl
  | z :: zs, i => by
    unfold nameFrom
    split
    · right; simp; omega
    · rcases nameFrom_range s zs (i + 1) with h | h
      · exact .inl h
      · right; simp; omega
theorem nameIdx_range (ns : List (List UInt8)) (s : List UInt8) : nameIdx ns s = -1 ∨ (0 ≤ nameIdx ns s ∧ nameIdx ns s < ns.length) := by
  have := nameFrom_range s ns 0
  unfold nameIdx
  omega
theorem index_names {w : World} {ok : Nat → Prop} {v : Value} {ns : List (List UInt8)} (s : List UInt8) (h : RowAt w ok v ns.length (strs ns)) :
    Calls Tryd.prog 24 #[v, .string ⟨s.toArray⟩] w fun e w' => e = .returned (.int .i64 (nameIdx ns s)) ∧ w = w' := by
  have hp := h
  obtain ⟨p, c, rfl, h1, h2, h3⟩ := h
  by_cases hne : ns = []
  · subst hne
    refine (Tryd.slices_Index_string_empty p c ⟨s.toArray⟩ w).mono ?_
    rintro e w' ⟨rfl, rfl⟩
    exact ⟨rfl, rfl⟩
  · obtain ⟨g, o, c0, e, hc⟩ := row_names hp hne
    injection e with e1 e2 e3
    subst e1
    refine (Tryd.slices_Index_string g o ns.length c (arrs ns) ⟨s.toArray⟩ w (by simp [arrs]) (by omega) hc).mono ?_
    rintro e w' ⟨rfl, rfl⟩
    refine ⟨?_, rfl⟩
    rw [List.take_of_length_le (by simp [arrs])]
    unfold Lib.idxOfS nameIdx
    rw [idxFrom_arrs]

theorem field_results {tmps : Array Value} {w : World} {g : Nat} {a b c d e x : Value} (hp : tmps.getD 4 undef = .pointer (some ⟨g, 0, none⟩)) (hq : tmps.getD 5 undef = x) (h : Five w g a b c d e) :
    (results Tryd.f14 tmps).run Tryd.prog w = .ok (.tuple #[.agg #[a, b, c, d, e], x]) w := by
  simp only [Array.getD_eq_getD_getElem?] at hp hq
  obtain ⟨h0, h1, h2, h3, h4⟩ := h.cells
  simp [results, Tryd.results14, hp, hq, go_sem, h0, h1, h2, h3, h4, asAddr]

set_option maxHeartbeats 4000000 in
set_option maxRecDepth 100000 in
theorem field_any (v : V) (s : List UInt8) (cs : List Value) (w : World) (ok : Nat → Prop) (hok : ∀ k, ok k → k < w.heap.size) (hV : VAt w ok v cs) :
    Calls Tryd.prog 14 #[.agg cs.toArray, .string ⟨s.toArray⟩] w fun e w' => ∃ ds, e = .returned (.tuple #[.agg ds.toArray, .bool (fld v s).isSome]) ∧ VAt w' ok ((fld v s).getD nul) ds ∧ Below w.heap.size w w' := by
  obtain ⟨k, n, t, ks, ns⟩ := v
  obtain ⟨kv, nv, css, rfl, hall, hkr, hnr⟩ := hV
  have hB2 : ∀ o o', Below w.heap.size w ((w.alloc o).alloc o') := fun o o' => ((Below.refl _ _).alloc (Nat.le_refl _) _).alloc (by simp) _
  have hIx := fun o o' => index_names s (RowAt.same hnr (fun k hk => (hB2 o o').block k (hok k hk)))
  obtain ⟨p, c, rfl, hc1, hc2, hkr⟩ := hkr
  obtain ⟨q, d, rfl, hd1, hd2, hd3⟩ := hnr
  obtain ⟨F, hF⟩ : ∃ F, fld (.mk k n t ks ns) s = F := ⟨_, rfl⟩
  rw [hF]
  have hF' : (if k = 5 ∧ 0 ≤ nameIdx ns s then ks[(nameIdx ns s).toNat]? else none) = F := hF
  have hr := nameIdx_range ns s
  obtain ⟨x, hx⟩ : ∃ x, nameIdx ns s = x := ⟨_, rfl⟩
  rw [hx] at hIx hF' hr
  have HB2 := Lib.hid hB2
  have HIX := Lib.hid hIx
  have HKR := Lib.hid hkr
  have HOK := Lib.hid hok
  have HALL := Lib.hid hall
  have HR := Lib.hid hF'
  have HN : Hid (∀ o, Five ((w.alloc o).alloc (.cells #[.int .u8 0, .int .i64 0, .string ⟨#[]⟩, .slice none 0 0, .slice none 0 0] 27)) (w.heap.size + 1) (.int .u8 0) (.int .i64 0) (.string ⟨#[]⟩) (.slice none 0 0) (.slice none 0 0)) := Lib.hid (fun o => by
    have := heap_alloc_new (w.alloc o) (.cells #[.int .u8 0, .int .i64 0, .string ⟨#[]⟩, .slice none 0 0, .slice none 0 0] 27)
    rw [show (w.alloc o).heap.size = w.heap.size + 1 by simp] at this
    exact this)
  have hks : ks.length ≤ 9223372036854775807 := by omega
  unfold strv
  clear hB2 hIx hkr hok hall hF' hF hx hc1 hc2 hd1 hd2 hd3
  by_cases e5 : k = 5
  · subst e5
    by_cases h0 : 0 ≤ x
    · obtain ⟨j, rfl⟩ : ∃ j : Nat, x = j := ⟨x.toNat, by omega⟩
      by_cases hj : j < ks.length
      · have hl := HALL.out.lengths
        have j1 : j < css.length := by rw [hl.1]; exact hj
        obtain ⟨g, o, rfl, hg', hcells⟩ := HKR.out (by omega)
        have hVk := VAll.get ks css HALL.out j j1 hj
        have HF : Hid (some ks[j] = F) := Lib.hid (by rw [← HR.out, if_pos ⟨rfl, h0⟩, Int.toNat_natCast, List.getElem?_eq_getElem hj])
        obtain ⟨v, hv⟩ : ∃ v, ks[j] = v := ⟨_, rfl⟩
        rw [hv] at hVk HF
        obtain ⟨p5, c5, p6, c6, hsh, _, _, _, _⟩ := hVk.shape
        simp only [strv] at hsh
        have hcc : ∀ o1 o2 i y, css[j][i]? = some y → ((w.alloc o1).alloc o2).cell? ⟨g, o + j * 5 + i, none⟩ = some y := fun o1 o2 i y hy =>
          ((HB2.out o1 o2).cell (p := ⟨g, o + j * 5 + i, none⟩) (HOK.out g hg')).trans (row_five hcells hl.2 j j1 i y hy)
        rw [hsh] at hcc hVk
        have c0 := fun o1 o2 => hcc o1 o2 0 _ rfl
        have c1 := fun o1 o2 => hcc o1 o2 1 _ rfl
        have c2 := fun o1 o2 => hcc o1 o2 2 _ rfl
        have c3 := fun o1 o2 => hcc o1 o2 3 _ rfl
        have c4 := fun o1 o2 => hcc o1 o2 4 _ rfl
        simp only [Nat.add_zero] at c0
        have t1 : decide ((ks.length : Int) ≤ (j : Int)) = false := by simp only [decide_eq_false_iff_not]; omega
        have t2 : decide ((j : Int) < 0) = false := by simp only [decide_eq_false_iff_not]; omega
        have HNV : Hid (∀ o, Five ((w.alloc o).alloc (.cells #[.int .u8 v.kind, .int .i64 v.num, .string ⟨v.text.toArray⟩, .slice p5 v.kids.length c5, .slice p6 v.names.length c6] 27)) (w.heap.size + 1) (.int .u8 v.kind) (.int .i64 v.num) (.string ⟨v.text.toArray⟩) (.slice p5 v.kids.length c5) (.slice p6 v.names.length c6)) := Lib.hid (fun o => by
          have := heap_alloc_new (w.alloc o) (.cells #[.int .u8 v.kind, .int .i64 v.num, .string ⟨v.text.toArray⟩, .slice p5 v.kids.length c5, .slice p6 v.names.length c6] 27)
          rw [show (w.alloc o).heap.size = w.heap.size + 1 by simp] at this
          exact this)
        have HVK := Lib.hid hVk
        clear hcells hg' hVk hv hsh hcc hl
        go_enter Tryd.func14, Tryd.ntmps14
        go_wp2_with fail
        refine (HIX.out _ _).mono ?_
        rintro e w' ⟨rfl, rfl⟩
        go_wp2
        refine bodyPost_ret (v := .tuple #[.agg #[.int .u8 v.kind, .int .i64 v.num, .string ⟨v.text.toArray⟩, .slice p5 v.kids.length c5, .slice p6 v.names.length c6], .bool true]) (field_results rfl rfl (HNV.out _)) rfl ?_
        rw [← HF.out]
        exact ⟨[.int .u8 v.kind, .int .i64 v.num, .string ⟨v.text.toArray⟩, .slice p5 v.kids.length c5, .slice p6 v.names.length c6], rfl, VAt.same (fun k hk => (HB2.out _ _).block k (HOK.out k hk)) _ _ HVK.out, HB2.out _ _⟩
      · have HF : Hid (none = F) := Lib.hid (by rw [← HR.out, if_pos ⟨rfl, h0⟩, Int.toNat_natCast, List.getElem?_eq_none (by omega)])
        have t1 : decide ((ks.length : Int) ≤ (j : Int)) = true := by simp only [decide_eq_true_eq]; omega
        have t2 : decide ((j : Int) < 0) = false := by simp only [decide_eq_false_iff_not]; omega
        go_enter Tryd.func14, Tryd.ntmps14
        go_wp2_with fail
        refine (HIX.out _ _).mono ?_
        rintro e w' ⟨rfl, rfl⟩
        go_wp2
        refine bodyPost_ret (v := .tuple #[.agg #[.int .u8 0, .int .i64 0, .string ⟨#[]⟩, .slice none 0 0, .slice none 0 0], .bool false]) (field_results rfl rfl (HN.out _)) rfl ?_
        rw [← HF.out]
        exact ⟨[.int .u8 0, .int .i64 0, .string ⟨#[]⟩, .slice none 0 0, .slice none 0 0], rfl, at_leaf _ _ _ _ _, HB2.out _ _⟩
    · have hx1 : x = -1 := by omega
      subst hx1
      have HF : Hid (none = F) := Lib.hid (by rw [← HR.out, if_neg (fun e => h0 e.2)])
      clear h0 hr
      go_enter Tryd.func14, Tryd.ntmps14
      go_wp2_with fail
      refine (HIX.out _ _).mono ?_
      rintro e w' ⟨rfl, rfl⟩
      go_wp2
      refine bodyPost_ret (v := .tuple #[.agg #[.int .u8 0, .int .i64 0, .string ⟨#[]⟩, .slice none 0 0, .slice none 0 0], .bool false]) (field_results rfl rfl (HN.out _)) rfl ?_
      rw [← HF.out]
      exact ⟨[.int .u8 0, .int .i64 0, .string ⟨#[]⟩, .slice none 0 0, .slice none 0 0], rfl, at_leaf _ _ _ _ _, HB2.out _ _⟩
  · have HF : Hid (none = F) := Lib.hid (by rw [← HR.out, if_neg (fun e => e5 e.1)])
    have t1 : (k != 5) = true := by rw [bne_iff_ne]; exact e5
    have t2 : (k == 5) = false := by rw [beq_eq_false_iff_ne]; exact e5
    clear e5 hr
    go_enter Tryd.func14, Tryd.ntmps14
    go_wp2_with fail
    refine (HIX.out _ _).mono ?_
    rintro e w' ⟨rfl, rfl⟩
    go_wp2
    refine bodyPost_ret (v := .tuple #[.agg #[.int .u8 0, .int .i64 0, .string ⟨#[]⟩, .slice none 0 0, .slice none 0 0], .bool false]) (field_results rfl rfl (HN.out _)) rfl ?_
    rw [← HF.out]
    exact ⟨[.int .u8 0, .int .i64 0, .string ⟨#[]⟩, .slice none 0 0, .slice none 0 0], rfl, at_leaf _ _ _ _ _, HB2.out _ _⟩
end Go.Proofs.YtcmlppknfbndaaaDoor
