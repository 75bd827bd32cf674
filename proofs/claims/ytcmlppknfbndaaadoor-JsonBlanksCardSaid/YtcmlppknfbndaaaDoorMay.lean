/-
  json's may. Conditions: each contract's own.
-/
import Derived.Test.YtcmlppknfbndaaaDoorFind
import Derived.Maps.Own
import Derived.Maps.OwnOps
import Derived.Maps.OwnSet
import Derived.Carry
namespace Go.Proofs.YtcmlppknfbndaaaDoor
open Go.RowKit Js Go.Maps

mutual
/-- Numbers and lengths as Go has them. -/
def FitV : V → Prop
  | .mk _ n t ks ns => (-9223372036854775808 ≤ n ∧ n ≤ 9223372036854775807) ∧ t.length ≤ 9223372036854775807 ∧ ns.length < 4611686018427387904 ∧ (∀ s ∈ ns, s.length ≤ 9223372036854775807) ∧ FitAll ks
def FitAll : List V → Prop
  | [] => True
  | v :: r => FitV v ∧ FitAll r
end

def MayOk (v : V) : Prop := ∀ (cs : List Value) (w : World) (ok : Nat → Prop) (nest : Int), 0 ≤ nest → nest ≤ 8 → (∀ k, ok k → k < w.heap.size) → VAt w ok v cs → FitV v → Env w →
  Calls Tryd.prog 20 #[.agg cs.toArray, .int .i64 nest] w fun e w' => e = .returned (.bool (may nest v)) ∧ Below w.heap.size w w'

theorem andNot_bv (a : BitVec 64) : (a &&& ~~~1#64) = 0#64 ↔ a = 0#64 ∨ a = 1#64 := by
  constructor
  · intro h
    have h1 : a = a &&& 1#64 := by
      ext i hi
      have h2 := congrArg (fun x => x.getLsbD i) h
      simp only [BitVec.getLsbD_and, BitVec.getLsbD_not, hi, decide_true, Bool.true_and, BitVec.getLsbD_zero] at h2
      simp only [← BitVec.getLsbD_eq_getElem, BitVec.getLsbD_and]
      cases e1 : a.getLsbD i <;> cases e2 : (1#64).getLsbD i <;> simp_all
    have h3 : a.toNat = a.toNat % 2 := by
      have := congrArg BitVec.toNat h1
      rw [BitVec.toNat_and] at this
      simpa [Nat.and_one_is_mod] using this
    rcases Nat.mod_two_eq_zero_or_one a.toNat with h4 | h4
    · left; apply BitVec.eq_of_toNat_eq; rw [h3, h4]; rfl
    · right; apply BitVec.eq_of_toNat_eq; rw [h3, h4]; rfl
  · rintro (rfl | rfl) <;> decide
theorem andNot_one (n : Int) (h1 : -9223372036854775808 ≤ n) (h2 : n ≤ 9223372036854775807) : (bits BinOp.andNot IntKind.i64 n 1 == 0) = decide (n = 0 ∨ n = 1) := by
  have hw : ∀ x : Nat, x < 18446744073709551616 → (IntKind.i64.wrap (x : Int) = 0 ↔ x = 0) := fun x hx => by
    simp only [IntKind.wrap_i64]; omega
  have hb : bits BinOp.andNot IntKind.i64 n 1 = IntKind.i64.wrap (((BitVec.ofInt 64 n) &&& ~~~1#64).toNat : Int) := rfl
  rw [Bool.eq_iff_iff, beq_iff_eq, decide_eq_true_eq, hb, hw _ (BitVec.isLt _)]
  have h0 : ((BitVec.ofInt 64 n) &&& ~~~1#64).toNat = 0 ↔ ((BitVec.ofInt 64 n) &&& ~~~1#64) = 0#64 := ⟨fun h => BitVec.eq_of_toNat_eq h, fun h => by rw [h]; rfl⟩
  rw [h0, andNot_bv]
  have e0 : BitVec.ofInt 64 n = 0#64 ↔ n = 0 := by
    rw [← BitVec.toNat_inj]; simp only [BitVec.toNat_ofInt, BitVec.toNat_ofNat]; omega
  have e1 : BitVec.ofInt 64 n = 1#64 ↔ n = 1 := by
    rw [← BitVec.toNat_inj]; simp only [BitVec.toNat_ofInt, BitVec.toNat_ofNat]; omega
  rw [e0, e1]

set_option maxRecDepth 100000 in
/-- The closure: is a kid none that may be? -/
theorem may1_any (v : V) (hv : MayOk v) (cs : List Value) (w : World) (ok : Nat → Prop) (np : Nat) (nest : Int) (h0 : 0 < nest) (h8 : nest ≤ 8) (hok : ∀ k, ok k → k < w.heap.size) (hV : VAt w ok v cs) (hfit : FitV v) (hE : Env w) (hnp : w.cell? ⟨np, 0, none⟩ = some (.int .i64 nest)) :
    Calls Tryd.prog 38 #[.agg cs.toArray, .pointer (some ⟨np, 0, none⟩)] w fun e w' => e = .returned (.bool (!(may (nest - 1) v))) ∧ Below w.heap.size w w' := by
  obtain ⟨p, c, q, d, hcs, _, _, _, _⟩ := hV.shape
  simp only [strv] at hcs
  have hwr : IntKind.i64.wrap (nest - 1) = nest - 1 := wrap_small _ (by omega) (by omega)
  have hB0 : Below w.heap.size w (w.alloc (Obj.cells cs.toArray 27)) := (Below.refl _ _).alloc (Nat.le_refl _) _
  have hcall := hv cs (w.alloc (Obj.cells cs.toArray 27)) ok (nest - 1) (by omega) (by omega) (fun k hk => by simp; have := hok k hk; omega) (VAt.same (fun k hk => Below.heap_alloc _ _ _ (hok k hk)) _ _ hV) hfit (hE.below hB0 hE.size)
  have hlt := cell_lt hnp
  subst hcs
  have HC := Lib.hid hcall
  have HB := Lib.hid hB0
  obtain ⟨b, hb⟩ : ∃ b, may (nest - 1) v = b := ⟨_, rfl⟩
  rw [hb] at HC ⊢
  clear hcall hB0 hV hfit hE hv hok hb
  go_enter Tryd.func38, Tryd.ntmps38
  go_wp2_with fail
  refine HC.out.mono ?_
  rintro e w1 ⟨rfl, hb1⟩
  have HB1 := Lib.hid (HB.out.trans (hb1.mono (by simp)))
  clear hb1
  go_wp2
  go_ret
  exact ⟨rfl, HB1.out⟩

theorem law9 : Keyed Tryd.prog 9 := string_keyed Tryd.underlying9
theorem zero3 (w : World) : (zeroValue 3).run Tryd.prog w = .ok (.int .i64 0) w := by kernel_rfl
theorem make62 (n : Int) (w : World) : (Instr.makeMap 62 (some (.int .i64 n))).run Tryd.prog w = .ok (.map (some w.heap.size)) (w.alloc (.map #[] 0)) := by
  simp [Instr.makeMap, go_sem, run_underlying Tryd.underlying62]
theorem namesOk_step (seen : List (List UInt8)) (s : List UInt8) (r : List (List UInt8)) : namesOk seen (s :: r) = (Lib.validD s && !seen.contains s && namesOk (seen ++ [s]) r) := rfl
theorem mayAll_eq (nest : Int) : ∀ ks, mayAll nest ks = !((ks.map fun v => !(may nest v)).any id)
  | [] => rfl
  | v :: r => by
    unfold mayAll
    rw [mayAll_eq nest r]
    simp only [List.map_cons, List.any_cons, id]
    cases may nest v <;> simp only [Bool.not_true, Bool.not_false, Bool.false_or, Bool.true_or, Bool.true_and, Bool.false_and]
theorem VAll.lengths {w : World} {ok : Nat → Prop} : ∀ (ks : List V) (css : List (List Value)), VAll w ok ks css → css.length = ks.length ∧ ∀ cs ∈ css, cs.length = 5
  | [], css, h => by obtain rfl : css = [] := h; simp
  | v :: r, css, h => by
    obtain ⟨cs, rs, rfl, h1, h2⟩ := h
    have ih := VAll.lengths r rs h2
    obtain ⟨_, _, _, _, hs, _⟩ := h1.shape
    refine ⟨by simp [ih.1], fun c hc => ?_⟩
    rcases List.mem_cons.1 hc with rfl | hc
    · rw [hs]; rfl
    · exact ih.2 c hc
theorem VAll.get {w : World} {ok : Nat → Prop} : ∀ (ks : List V) (css : List (List Value)), VAll w ok ks css → ∀ j (h1 : j < css.length) (h2 : j < ks.length), VAt w ok ks[j] css[j]
  | [], css, h, j, h1, h2 => by simp at h2
  | v :: r, css, h, j, h1, h2 => by
    obtain ⟨cs, rs, rfl, h3, h4⟩ := h
    cases j with
    | zero => exact h3
    | succ j => exact VAll.get r rs h4 j (by simpa using h1) (by simpa using h2)
theorem FitAll.get : ∀ (ks : List V), FitAll ks → ∀ v ∈ ks, FitV v
  | [], _, v, hv => by simp at hv
  | u :: r, h, v, hv => by
    rcases List.mem_cons.1 hv with rfl | hv
    · exact h.1
    · exact FitAll.get r h.2 v hv

/-- The names that have been seen, as the map has them. -/
structure SeenAt (w w1 : World) (N g : Nat) (X : Bool) (ns : List (List UInt8)) (kk : Nat) (wr : World) : Prop where
  nok : namesOk (ns.take kk) (ns.drop kk) = X
  map : ∃ D : DataW Unit, wr.ownsMap Tryd.prog 9 (plainElem Tryd.prog 3) g kk D ∧ IsMap D ∧ (∀ s : List UInt8, Maps.has D (.string s) = (ns.take kk).contains s) ∧
    ∀ (s : List UInt8) (z : DataW Unit), Maps.has D (.string s) = true → ∃ c : Nat, c < kk ∧ D.atKey (.string s) z = .lit (.int .i64 c)
  below : Below w.heap.size w wr
  keep : ∀ k, k < N + 2 → wr.heap[k]? = w1.heap[k]?
  size : N + 2 ≤ g ∧ g < wr.heap.size

theorem key9 (s : List UInt8) (h : s.length ≤ 9223372036854775807) : keyOf Tryd.prog 9 (.string ⟨s.toArray⟩) = some (.string s) :=
  WideMaps.keyOf_string_mk (P := Tryd.prog) Tryd.underlying9 (s := ⟨s.toArray⟩) (by simpa [ByteArray.size, maxLen] using h)
theorem take_next {ns : List (List UInt8)} {kk : Nat} (h : kk < ns.length) : ns.take (kk + 1) = ns.take kk ++ [ns[kk]] := by
  rw [List.take_succ_eq_append_getElem h]
theorem SeenAt.start {w w1 : World} {N : Nat} {ns : List (List UInt8)} (hB : Below w.heap.size w w1) (hz : N + 2 ≤ w1.heap.size) :
    SeenAt w w1 N w1.heap.size (namesOk [] ns) ns 0 (w1.alloc (.map #[] 0)) := by
  refine ⟨by simp, ⟨.map [], World.ownsMap_made w1 _ _ _, isMap_empty, fun s => rfl, fun s z h => by cases h⟩, hB.alloc hB.size _, fun k hk => Below.heap_alloc _ _ _ (by omega), hz, by simp⟩
theorem below_grown {w w' : World} (h : Below w.heap.size w w') : w.grownBy w' none := ⟨h.os, h.tape, h.output, h.size, fun k hk _ => h.block k hk⟩
theorem SeenAt.next {w w1 wr w2 w3 : World} {N g : Nat} {X : Bool} {ns : List (List UInt8)} {kk : Nat} {D : DataW Unit} {s : List UInt8} (h : SeenAt w w1 N g X ns kk wr) (hk : kk < ns.length) (hs : ns[kk] = s) (hv : Lib.validD s = true) (hc : (ns.take kk).contains s = false)
    (hm : IsMap D) (hhas : ∀ s : List UInt8, Maps.has D (.string s) = (ns.take kk).contains s) (hat : ∀ (s : List UInt8) (z : DataW Unit), Maps.has D (.string s) = true → ∃ c : Nat, c < kk ∧ D.atKey (.string s) z = .lit (.int .i64 c))
    (h2 : Below wr.heap.size wr w2) (h3 : w3.ownsMap Tryd.prog 9 (plainElem Tryd.prog 3) g (kk + 1) (D.put (.string s) (.lit (.int .i64 kk)))) (hg : w2.grownBy w3 (some g)) (hwg : w.heap.size ≤ g) : SeenAt w w1 N g X ns (kk + 1) w3 := by
  subst hs
  have hgs := h.size
  have hlen := h2.size
  refine ⟨?_, ⟨_, h3, hm.put _ _, fun s => ?_, fun s z hs => ?_⟩, ?_, fun k hk => ?_, hgs.1, by have := hg.size; omega⟩
  · have := h.nok
    rw [List.drop_eq_getElem_cons hk, namesOk_step, hv, hc] at this
    rw [take_next hk]
    simpa using this
  · rw [take_next hk]
    by_cases e : s = ns[kk]
    · subst e
      rw [has_put_same hm (by trivial)]
      exact (List.contains_iff_mem.2 (List.mem_append.2 (.inr (List.mem_singleton.2 rfl)))).symm
    · rw [has_put_other (by simpa using e), hhas]
      rw [Bool.eq_iff_iff]
      simp only [List.contains_iff_mem, List.mem_append, List.mem_singleton]
      exact ⟨.inl, fun h => h.resolve_right e⟩
  · by_cases e : s = ns[kk]
    · subst e
      exact ⟨kk, by omega, atKey_put_same hm (by trivial) _ _⟩
    · rw [has_put_other (by simpa using e)] at hs
      obtain ⟨c, h1, h2⟩ := hat s z hs
      exact ⟨c, by omega, by rw [atKey_put_other (by simpa using e)]; exact h2⟩
  · have hb2 := h.below.trans (h2.mono h.below.size)
    exact ⟨hg.os.trans hb2.os, hg.tape.trans hb2.tape, hg.output.trans hb2.output, Nat.le_trans hb2.size hg.size, fun k hk => by rw [hg.block k (by have := hb2.size; omega) (by simp; omega)]; exact hb2.block k hk⟩
  · rw [hg.block _ (by omega) (by simp; omega), h2.block _ (by omega)]; exact h.keep k hk

set_option maxHeartbeats 4000000 in
set_option maxRecDepth 100000 in
theorem may_core (k n : Int) (t : List UInt8) (ks : List V) (ns : List (List UInt8)) (hk : ∀ v ∈ ks, MayOk v) : MayOk (.mk k n t ks ns) := by
  intro cs w ok nest h0 h8 hok hV hfit hE
  obtain ⟨kv, nv, css, rfl, hall, ⟨p, c, rfl, hc1, hc2, hkr⟩, ⟨q, d, rfl, hd1, hd2, hnr⟩⟩ := hV
  obtain ⟨R, hR⟩ : ∃ R, may nest (.mk k n t ks ns) = R := ⟨_, rfl⟩
  rw [hR]
  unfold may at hR
  rw [bare_eq] at hR
  obtain ⟨B, hB⟩ : ∃ B, bareN k n t ks.length ns.length = B := ⟨_, rfl⟩
  rw [hB] at hR
  have HR := Lib.hid hR
  have HBE := Lib.hid hB
  have HK := Lib.hid hk
  have HALL := Lib.hid hall
  have HKR := Lib.hid hkr
  have HNR := Lib.hid hnr
  have HFIT := Lib.hid hfit
  have HOK := Lib.hid hok
  have HE := Lib.hid hE
  have HH := Lib.hid (And.intro h0 h8)
  have hbr := bareN_any k n t p q ks.length ns.length c d
  rw [hB] at hbr
  have HBR := Lib.hid hbr
  have HC1 := Lib.hid (And.intro hc1 hc2)
  have hs1 : (w.alloc (Obj.cells #[Value.int IntKind.u8 k, Value.int IntKind.i64 n, Value.string { data := t.toArray }, Value.slice p ks.length c, Value.slice q ns.length d] 27)).heap.size = w.heap.size + 1 := by simp
  have hs2 : ((w.alloc (Obj.cells #[Value.int IntKind.u8 k, Value.int IntKind.i64 n, Value.string { data := t.toArray }, Value.slice p ks.length c, Value.slice q ns.length d] 27)).alloc (Obj.cells #[Value.int IntKind.i64 nest] 3)).heap.size = w.heap.size + 2 := by simp
  have hB0 : Below w.heap.size w ((w.alloc (Obj.cells #[Value.int IntKind.u8 k, Value.int IntKind.i64 n, Value.string { data := t.toArray }, Value.slice p ks.length c, Value.slice q ns.length d] 27)).alloc (Obj.cells #[Value.int IntKind.i64 nest] 3)) := ((Below.refl _ _).alloc (Nat.le_refl _) _).alloc (by simp) _
  have hF0 : Five ((w.alloc (Obj.cells #[Value.int IntKind.u8 k, Value.int IntKind.i64 n, Value.string { data := t.toArray }, Value.slice p ks.length c, Value.slice q ns.length d] 27)).alloc (Obj.cells #[Value.int IntKind.i64 nest] 3)) w.heap.size (.int .u8 k) (.int .i64 n) (.string ⟨t.toArray⟩) (.slice p ks.length c) (.slice q ns.length d) :=
    Five.same (w := w.alloc (Obj.cells #[Value.int IntKind.u8 k, Value.int IntKind.i64 n, Value.string { data := t.toArray }, Value.slice p ks.length c, Value.slice q ns.length d] 27)) (heap_alloc_new w _) (Below.heap_alloc _ _ _ (by simp))
  have hG0 : ((w.alloc (Obj.cells #[Value.int IntKind.u8 k, Value.int IntKind.i64 n, Value.string { data := t.toArray }, Value.slice p ks.length c, Value.slice q ns.length d] 27)).alloc (Obj.cells #[Value.int IntKind.i64 nest] 3)).heap[w.heap.size + 1]? = some (.cells #[Value.int IntKind.i64 nest] 3 (0, 0)) := by
    rw [← hs1]; exact heap_alloc_new _ _
  have HS2 := Lib.hid hs2
  have HB0 := Lib.hid hB0
  have HF0 := Lib.hid hF0
  have HG0 := Lib.hid hG0
  unfold strv
  clear hR hB hk hall hkr hnr hfit hok hE hbr h0 h8 hc1 hc2 hd1 hd2 hs1 hs2 hB0 hF0 hG0
  go_enter Tryd.func20, Tryd.ntmps20
  go_wp2_with fail
  generalize ((w.alloc (Obj.cells #[Value.int IntKind.u8 k, Value.int IntKind.i64 n, Value.string { data := t.toArray }, Value.slice p ks.length c, Value.slice q ns.length d] 27)).alloc (Obj.cells #[Value.int IntKind.i64 nest] 3)) = w0 at *
  refine (HBR.out _).mono ?_
  rintro e w1 ⟨rfl, hb1⟩
  have hs2 := HS2.out
  have hF1 := HF0.out.same (hb1.block _ (by omega))
  have hG1 := (hb1.block (w.heap.size + 1) (by omega)).trans HG0.out
  have hB1 := HB0.out.trans (hb1.mono (by omega))
  have hz1 : w.heap.size + 2 ≤ w1.heap.size := by have := hb1.size; omega
  obtain ⟨a0, a1, a2, a3, a4⟩ := hF1.cells
  obtain ⟨g0, g1⟩ := one_cell hG1
  have HB1 := Lib.hid hB1
  have HF1 := Lib.hid hF1
  have HG1 := Lib.hid hG1
  clear hb1 hF1 hG1 hB1 HS2 HB0 HF0 HG0 hs2
  cases B with
  | false =>
    have HF : Hid (R = false) := by rw [← HR.out]; exact Lib.hid (Bool.false_and _)
    clear HR
    go_wp2
    go_ret
    exact ⟨by rw [HF.out]; rfl, HB1.out⟩
  | true =>
    have hr := HR.out
    rw [Bool.true_and] at hr
    clear HR
    have hkind : k = 0 ∨ k = 2 ∨ k = 1 ∨ k = 3 ∨ (k = 4 ∨ k = 5) ∨ ((k == 0) = false ∧ (k == 1) = false ∧ (k == 2) = false ∧ (k == 3) = false ∧ (k == 4) = false ∧ (k == 5) = false) := by
      simp only [beq_eq_false_iff_ne]; omega
    rcases hkind with rfl | rfl | rfl | rfl | h45 | ⟨k0, k1, k2, k3, k4, k5⟩
    · have HF : Hid (R = true) := Lib.hid hr.symm
      clear hr
      go_wp2
      go_ret
      exact ⟨by rw [HF.out]; rfl, HB1.out⟩
    · have HF : Hid (R = true) := Lib.hid hr.symm
      clear hr
      go_wp2
      go_ret
      exact ⟨by rw [HF.out]; rfl, HB1.out⟩
    · have HF : Hid (R = decide (n = 0 ∨ n = 1)) := Lib.hid hr.symm
      clear hr
      go_wp2
      go_ret
      exact ⟨by rw [HF.out, ← andNot_one n HFIT.out.1.1 HFIT.out.1.2]; rfl, HB1.out⟩
    · have HF : Hid (R = Lib.validD t) := Lib.hid hr.symm
      clear hr
      have hT := (HE.out.below HB1.out HE.out.size).utf8
      have ht := HFIT.out.2.1
      have HT := Lib.hid hT
      clear hT
      go_wp2_with fail
      refine (Tryd.utf8_ValidString ⟨t.toArray⟩ w1 (by simpa [ByteArray.size] using ht) HT.out).mono ?_
      rintro e w2 ⟨rfl, hb2⟩
      have hbb := HB1.out.trans (hb2.mono (by omega))
      have HBB := Lib.hid hbb
      clear hb2 hbb
      go_wp2
      go_ret
      exact ⟨by rw [HF.out]; rfl, HBB.out⟩
    · have HR2 : Hid ((namesOk [] ns && decide (0 < nest) && mayAll (nest - 1) ks) = R) := by
        rw [← hr]
        rcases h45 with rfl | rfl <;> exact Lib.hid rfl
      have hmm := make62
      have a4' : (w1.alloc (.map #[] 0)).cell? ⟨w.heap.size, 4, none⟩ = some (.slice q ns.length d) := by
        rw [World.cell?_alloc_lt _ _ _ (by show w.heap.size < w1.heap.size; omega)]; exact a4
      clear hr
      rcases h45 with rfl | rfl
      all_goals
        have HS0 : Hid (SeenAt w w1 w.heap.size w1.heap.size (namesOk [] ns) ns 0 (w1.alloc (.map #[] 0))) := SeenAt.start HB1.out (by omega)
        go_wp2_with fail
        have hnl := HFIT.out.2.2.1
        go_loopg [39] ns.length (fun gg s39 wr => ∃ kk : Nat, kk ≤ ns.length ∧ ns.length - kk ≤ gg ∧ s39 = .int .i64 kk ∧ Hid (SeenAt w w1 w.heap.size w1.heap.size (namesOk [] ns) ns kk wr))
        case atStart => exact ⟨0, Nat.zero_le _, by omega, rfl, HS0⟩
        case round =>
          clear a0 a1 a2 a3 a4 a4' g0 g1
          obtain ⟨kk, hkk, hg, rfl, S⟩ := hrel
          by_cases hlt : kk < ns.length
          · have hltz : decide ((kk : Int) < (ns.length : Int)) = true := by simp only [decide_eq_true_eq]; omega
            obtain ⟨g, o, rfl, hg', hcells⟩ := HNR.out (by omega)
            obtain ⟨s, hs⟩ : ∃ s, ns[kk] = s := ⟨_, rfl⟩
            have hcell : wr.cell? ⟨g, o + kk, none⟩ = some (.string ⟨s.toArray⟩) := by
              have h1 := hcells kk (strv ns[kk]) (by simp [strs, hlt])
              rw [hs] at h1
              exact (S.out.below.cell (p := ⟨g, o + kk, none⟩) (HOK.out g hg')).trans h1
            have hslen : s.length ≤ 9223372036854775807 := HFIT.out.2.2.2.1 s (hs ▸ List.getElem_mem hlt)
            have HKEY := Lib.hid (key9 s hslen)
            obtain ⟨hnok, ⟨D, hown, hism, hhas, hat⟩, hbel, hnest, hgs⟩ := S.out
            obtain ⟨tt, htt⟩ : ∃ tt, (ns.take kk).contains s = tt := ⟨_, rfl⟩
            obtain ⟨vd, hvd⟩ : ∃ vd, Lib.validD s = vd := ⟨_, rfl⟩
            have hh := hhas s
            rw [htt] at hh
            rw [List.drop_eq_getElem_cons hlt, namesOk_step, hs, hvd, htt] at hnok
            have HAT := Lib.hid hat
            have HHAS := Lib.hid hhas
            have HOWN := Lib.hid hown
            have HISM := Lib.hid hism
            have HH := Lib.hid hh
            have HTT := Lib.hid htt
            have HVD := Lib.hid hvd
            have HNOK := Lib.hid hnok
            have HGE := Lib.hid hg
            have HS := Lib.hid hs
            have hT := (HE.out.below hbel HE.out.size).utf8
            have HT := Lib.hid hT
            have hcon := Tryd.utf8_ValidString ⟨s.toArray⟩ wr (by simpa [ByteArray.size] using hslen) HT.out
            rw [show (ByteArray.mk s.toArray).data.toList = s from by simp, hvd] at hcon
            have HCON := Lib.hid hcon
            clear hat hhas hown hism hh htt hvd hnok hg hs hT hbel hnest hgs hcells hg' hcon hslen
            cases vd with
            | false =>
              have HF : Hid (R = false) := by
                rw [← HR2.out, ← HNOK.out]; exact Lib.hid rfl
              go_wp2_with (first | (at_lookup; refine wpList_lookup_own_ok_int _ rfl _ _ 62 rfl 9 3 .i64 law9 Tryd.underlying62 Tryd.underlying3 (zero3 _) w1.heap.size kk D rfl HOWN.out _ _ rfl HKEY.out ?_; intro cL hat' hwc; rw [HH.out]) | (go_at_call 36; refine HCON.out.mono ?_; rintro e w2 ⟨rfl, hb2⟩))
              go_ret
              exact ⟨by rw [HF.out]; rfl, S.out.below.trans (hb2.mono S.out.below.size)⟩
            | true =>
              cases tt with
              | true =>
                have HF : Hid (R = false) := by
                  rw [← HR2.out, ← HNOK.out]; exact Lib.hid rfl
                obtain ⟨c0, hc0, hat0⟩ := HAT.out s (.lit (.int .i64 0)) HH.out
                have HAT0 := Lib.hid hat0
                have hck : decide ((c0 : Int) < (kk : Int)) = true := by simp only [decide_eq_true_eq]; omega
                clear hat0
                go_wp2_with (first | (at_lookup; refine wpList_lookup_own_ok_int _ rfl _ _ 62 rfl 9 3 .i64 law9 Tryd.underlying62 Tryd.underlying3 (zero3 _) w1.heap.size kk D rfl HOWN.out _ _ rfl HKEY.out ?_; intro cL hat' hwc; rw [HH.out]; obtain rfl : cL = (c0 : Int) := (by have := HAT0.out; rw [hat'] at this; simpa using this)) | (go_at_call 36; refine HCON.out.mono ?_; rintro e w2 ⟨rfl, hb2⟩))
                go_ret
                exact ⟨by rw [HF.out]; rfl, S.out.below.trans (hb2.mono S.out.below.size)⟩
              | false =>
                have HWF : Hid ((Lit.int .i64 (kk : Int)).wf = true) := by
                  have : (Lit.int .i64 (kk : Int)).wf = true := by
                    have h := wrap64_wf (kk : Int)
                    rwa [show wrap64 (kk : Int) = (kk : Int) by unfold wrap64; omega] at h
                  exact Lib.hid this
                have hwr : IntKind.i64.wrap ((kk : Int) + 1) = ((kk + 1 : Nat) : Int) := by
                  rw [show ((kk + 1 : Nat) : Int) = (kk : Int) + 1 by omega]
                  exact wrap_small _ (by omega) (by omega)
                go_wp2_with (first | (at_lookup; refine wpList_lookup_own_ok_int _ rfl _ _ 62 rfl 9 3 .i64 law9 Tryd.underlying62 Tryd.underlying3 (zero3 _) w1.heap.size kk D rfl HOWN.out _ _ rfl HKEY.out ?_; intro cL hat' hwc; rw [HH.out]) | (go_at_call 36; refine HCON.out.mono ?_; rintro e w2 ⟨rfl, hb2⟩; have HB2 := Lib.hid hb2; have HOWN2 := Lib.hid (HOWN.out.kept (below_grown hb2) (by simp)); clear hb2) | (at_mapUpdate; refine wpList_mapUpdate_own _ rfl _ _ _ 62 rfl 9 3 law9 Tryd.underlying62 (plainElem Tryd.prog 3) w1.heap.size kk D rfl HOWN2.out (by unfold maxLen; omega) _ _ _ rfl rfl HKEY.out _ [] (plainElem_int Tryd.underlying3 HWF.out) ?_; intro w3 hown3 hg3; have HN3 := Lib.hid (S.out.next hlt HS.out HVD.out HTT.out HISM.out HHAS.out HAT.out HB2.out hown3 hg3 (by omega)); clear hown3 hg3))
                go_roundg (ns.length - (kk + 1))
                case measure => have := HGE.out; omega
                case rel => exact ⟨kk + 1, by omega, Nat.le_refl _, rfl, HN3⟩
          · have hltz : decide ((kk : Int) < (ns.length : Int)) = false := by simp only [decide_eq_false_iff_not]; omega
            have hX : namesOk [] ns = true := by
              have h1 := S.out.nok
              rw [List.drop_eq_nil_of_le (by omega)] at h1
              rw [← h1]; rfl
            have hRR := HR2.out
            rw [hX, Bool.true_and] at hRR
            have hF := HF1.out.same (S.out.keep _ (by omega))
            obtain ⟨g0, g1⟩ := one_cell ((S.out.keep (w.heap.size + 1) (by omega)).trans HG1.out)
            obtain ⟨a0, a1, a2, a3, a4⟩ := hF.cells
            have hmf : ∀ (fn : Fn) (first cap : Array Value) (w : World), (Instr.makeFunc fn first cap).run Tryd.prog w = .ok (.func fn first cap) w := fun _ _ _ _ => rfl
            cases hn : decide ((0 : Int) < nest) with
            | false =>
              have HF : Hid (R = false) := by
                rw [← hRR, hn]; exact Lib.hid rfl
              clear hRR hF hX
              go_wp2
              go_ret
              exact ⟨by rw [HF.out]; rfl, S.out.below⟩
            | true =>
              have HF : Hid (R = !((ks.map fun v => !(may (nest - 1) v)).any id)) := by
                rw [← hRR, hn, ← mayAll_eq]; exact Lib.hid rfl
              have hl := HALL.out.lengths
              have hpos : 0 < nest := by simpa using hn
              have hbw := S.out.below
              have hall := VAll.same (w' := wr) (fun k hk => hbw.block k (HOK.out k hk)) _ _ HALL.out
              have hany := any_any (w.heap.size + 1) wr css (ks.map fun v => !(may (nest - 1) v)) p c ks.length hl.1 (by simp) (by have := HC1.out; omega) HC1.out.1 hl.2
                (fun hne => by
                  obtain ⟨g, o, e1, e2, e3⟩ := HKR.out hne
                  exact ⟨g, o, e1, Nat.lt_of_lt_of_le (HOK.out g e2) hbw.size, e3.same (hbw.block g (HOK.out g e2))⟩)
                (fun j h1 h2 W hW => by
                  have h3 : j < ks.length := by simpa using h2
                  have hvj := VAt.same (w' := W) (fun k hk => hW.block k (Nat.lt_of_lt_of_le (HOK.out k hk) hbw.size)) _ _ (VAll.get ks css hall j h1 h3)
                  have hm := may1_any ks[j] (HK.out _ (List.getElem_mem h3)) css[j] W ok (w.heap.size + 1) nest hpos HH.out.2 (fun k hk => Nat.lt_of_lt_of_le (Nat.lt_of_lt_of_le (HOK.out k hk) hbw.size) hW.size) hvj (FitAll.get ks HFIT.out.2.2.2.2 _ (List.getElem_mem h3)) ((HE.out.below hbw HE.out.size).below hW (Nat.le_trans HE.out.size hbw.size))
                    ((hW.cell (p := ⟨w.heap.size + 1, 0, none⟩) (cell_lt g0)).trans g0)
                  refine hm.mono fun e w' ⟨x1, x2⟩ => ⟨?_, hW.trans (x2.mono hW.size)⟩
                  rw [x1]; simp)
              have HANY := Lib.hid hany
              obtain ⟨bb, hbb⟩ : ∃ bb, (ks.map fun v => !(may (nest - 1) v)).any id = bb := ⟨_, rfl⟩
              rw [hbb] at HANY HF
              clear hRR hF hX hl hall hany hbb hbw
              go_wp2_with (first | (go_at_call 37; refine HANY.out.mono ?_; rintro e w2 ⟨rfl, hb2⟩))
              go_ret
              exact ⟨by rw [HF.out]; rfl, S.out.below.trans (hb2.mono S.out.below.size)⟩
    · have HF : Hid (R = false) := by
        have e0 := beq_eq_false_iff_ne.1 k0
        have e1 := beq_eq_false_iff_ne.1 k1
        have e2 := beq_eq_false_iff_ne.1 k2
        have e3 := beq_eq_false_iff_ne.1 k3
        have e4 := beq_eq_false_iff_ne.1 k4
        have e5 := beq_eq_false_iff_ne.1 k5
        rw [← hr]
        exact Lib.hid (by simp [e0, e1, e2, e3, e4, e5])
      clear hr
      go_wp2
      go_ret
      exact ⟨by rw [HF.out]; rfl, HB1.out⟩

mutual
theorem may_any : ∀ v : V, MayOk v
  | .mk k n t ks ns => may_core k n t ks ns (may_all ks)
theorem may_all : ∀ (ks : List V), ∀ v ∈ ks, MayOk v
  | [], v, h => by simp at h
  | u :: r, v, h => by
    rcases List.mem_cons.1 h with e | h
    · rw [e]; exact may_any u
    · exact may_all r v h
end
end Go.Proofs.YtcmlppknfbndaaaDoor
