/-
  json's Parse: a reader that panics with an error, and a deferred function that recovers it. Conditions: each contract's own.
-/
import Derived.Test.YtcmlppknfbndaaaDoorValue
import Derived.Defers
import Derived.Recover
import Derived.Laws.Pointers
namespace Go.Proofs.YtcmlppknfbndaaaDoor
open Go.RowKit Js

def zeros (w : World) (g : Nat) : World := ((((w.setCell ⟨g, 0, none⟩ (.int .u8 0)).setCell ⟨g, 1, none⟩ (.int .i64 0)).setCell ⟨g, 2, none⟩ (.string ⟨#[]⟩)).setCell ⟨g, 3, none⟩ (.slice none 0 0)).setCell ⟨g, 4, none⟩ (.slice none 0 0)

theorem assert_errno (c : Int) (w : World) : (Instr.typeAssert (.iface 28 (.int .i64 c)) 20 28 true).run Tryd.prog w = .ok (.tuple #[.int .i64 c, .bool true]) w := by kernel_rfl
theorem assert_nil (w : World) : (Instr.typeAssert .nilIface 20 28 true).run Tryd.prog w = .ok (.tuple #[.int .i64 0, .bool false]) w := by kernel_rfl

set_option maxRecDepth 100000 in
theorem catch_panicking (g h : Nat) (c : Int) (older : List PanicEntry) (w : World) (a0 a1 a2 a3 a4 a5 : Value) (hF : Five w g a0 a1 a2 a3 a4) (hc : w.cell? ⟨h, 0, none⟩ = some a5) (hz : w.frozen? ⟨h, 0, none⟩ = false) (hne : ¬ g = h) :
    CallsD Tryd.prog 15 #[.pointer (some ⟨g, 0, none⟩), .pointer (some ⟨h, 0, none⟩)] (.panicking ({ v := .iface 28 (.int .i64 c), recovered := false } :: older)) w fun e u' w' =>
      e = .returned (.tuple #[]) ∧ u' = .panicking ({ v := .iface 28 (.int .i64 c), recovered := true } :: older) ∧ w' = (zeros w g).setCell ⟨h, 0, none⟩ (.int .i64 c) := by
  obtain ⟨b0, b1, b2, b3, b4⟩ := hF.cells
  obtain ⟨d0, d1, d2, d3, d4⟩ := hF.free
  refine callsD_of_wpS Tryd.func15 rfl fun c₀ cs hu => ?_
  apply wpS_seq
  apply wpS_region
  simp [wpOpsS, go_sem, recoverD, hu, assert_errno, Tryd.ntmps15, Exit.thenS]
  apply wpS_seq
  apply wpS_region
  simp [wpOpsS, go_sem, Exit.thenS]
  refine wpS_cond (t := true) (by simp [Act.eval, Array.replicate]) ?_
  simp only [if_true]
  apply wpS_region
  simp [wpOpsS, go_sem, hc, hz, b0, b1, b2, b3, b4, d0, d1, d2, d3, d4, bodyPostS, results, Tryd.results15]
  rfl

set_option maxRecDepth 100000 in
theorem catch_idle (g h : Nat) (w : World) :
    CallsD Tryd.prog 15 #[.pointer (some ⟨g, 0, none⟩), .pointer (some ⟨h, 0, none⟩)] .returning w fun e u' w' => e = .returned (.tuple #[]) ∧ u' = .returning ∧ w' = w := by
  refine callsD_of_wpS Tryd.func15 rfl fun c₀ cs hu => ?_
  apply wpS_seq
  apply wpS_region
  simp [wpOpsS, go_sem, recoverD, hu, assert_nil, Tryd.ntmps15, Exit.thenS]
  apply wpS_seq
  apply wpS_region
  simp [wpOpsS, go_sem, Exit.thenS]
  refine wpS_cond (t := false) (by simp [Act.eval, Array.replicate]) ?_
  simp only [Bool.false_eq_true, if_false]
  refine wpS_of_wp (wp_skip ?_)
  cases c₀
  simp_all [bodyPostS, results, Tryd.results15]

theorem size_setCell1 (w : World) (p : Addr) (v : Value) : (w.setCell p v).heap.size = w.heap.size := by simp [World.setCell]
theorem one_cell {w : World} {g : Nat} {v : Value} {t : TypeId} (h : w.heap[g]? = some (.cells #[v] t (0, 0))) : w.cell? ⟨g, 0, none⟩ = some v ∧ w.frozen? ⟨g, 0, none⟩ = false := by
  simp [World.cell?, World.frozen?, h]
theorem door_ret {P : Program} {fn : Func} {R : Ending → World → Prop} {a : Act} {w : World} (h : Leaves P fn a.tmps R a.defers .returning w) : bodyPostD P fn R .ret a w := h
theorem door_panic {P : Program} {fn : Func} {R : Ending → World → Prop} {a : Act} {w : World} {chain : List PanicEntry} (h : Leaves P fn a.tmps R a.defers (.panicking chain) w) : bodyPostD P fn R (.panic chain) a w := h
theorem parse_end {tmps : Array Value} {w : World} {g h : Nat} {a b c d e x : Value} {R : Ending → World → Prop} (hg : tmps.getD 2 undef = .pointer (some ⟨g, 0, none⟩)) (hh : tmps.getD 3 undef = .pointer (some ⟨h, 0, none⟩))
    (hF : Five w g a b c d e) (hc : w.cell? ⟨h, 0, none⟩ = some x) (hR : R (.returned (.tuple #[.agg #[a, b, c, d, e], x])) w) : Leaves Tryd.prog Tryd.f7 tmps R [] .returning w := by
  refine ⟨_, ?_, hR⟩
  simp only [Array.getD_eq_getD_getElem?] at hg hh
  obtain ⟨h0, h1, h2, h3, h4⟩ := hF.cells
  simp [results, Tryd.results7, hg, hh, go_sem, h0, h1, h2, h3, h4, hc, asAddr]

/-- A panic with an error, met at the door. -/
theorem parse_caught {tmps : Array Value} {w wr : World} {b5 b6 b7 b8 b9 b10 : Value} {cc : Int} (hg : tmps.getD 2 undef = .pointer (some ⟨w.heap.size, 0, none⟩)) (hh : tmps.getD 3 undef = .pointer (some ⟨w.heap.size + 1, 0, none⟩))
    (hF : Five wr w.heap.size b5 b6 b7 b8 b9) (hG : wr.heap[w.heap.size + 1]? = some (.cells #[b10] 28 (0, 0))) (hB : Below w.heap.size w wr) :
    Leaves Tryd.prog Tryd.f7 tmps (fun e w' => ∃ cs, e = .returned (.tuple #[.agg cs.toArray, .int .i64 cc]) ∧ VAt w' (fun k => w.heap.size ≤ k ∧ k < w'.heap.size) nul cs ∧ Below w.heap.size w w')
      [{ target := .fn (.func 15) #[.pointer (some ⟨w.heap.size, 0, none⟩), .pointer (some ⟨w.heap.size + 1, 0, none⟩)], args := #[] }]
      (.panicking [{ v := .iface 28 (.int .i64 cc), recovered := false }]) wr := by
  refine leaves_cons (f := 15) (args := #[.pointer (some ⟨w.heap.size, 0, none⟩), .pointer (some ⟨w.heap.size + 1, 0, none⟩)]) (by simp) (by simp [go_sem]) ?_
  refine (catch_panicking w.heap.size (w.heap.size + 1) cc [] wr _ _ _ _ _ _ hF (one_cell hG).1 (one_cell hG).2 (by omega)).mono ?_
  rintro e u' w'' ⟨rfl, rfl, rfl⟩
  show Leaves _ _ _ _ [] (settle _) _
  have hst : settle (.panicking [{ v := .iface 28 (.int .i64 cc), recovered := true }]) = .returning := rfl
  rw [hst]
  refine parse_end hg hh (a := .int .u8 0) (b := .int .i64 0) (c := .string ⟨#[]⟩) (d := .slice none 0 0) (e := .slice none 0 0) (x := .int .i64 cc) ?_ ?_ ⟨[.int .u8 0, .int .i64 0, .string ⟨#[]⟩, .slice none 0 0, .slice none 0 0], rfl, at_leaf _ _ _ _ _, ?_⟩
  · exact (hF.put _ _ _ _ _).same (Below.heap_setCell _ _ _ _ (by simp))
  · exact World.cell?_setCell_same (zeros wr w.heap.size) ⟨w.heap.size + 1, 0, none⟩ _ (show (zeros wr w.heap.size).cell? ⟨w.heap.size + 1, 0, none⟩ = some b10 by
      unfold zeros
      rw [World.cell?_of_block (w := wr) (a := ⟨w.heap.size + 1, 0, none⟩) (other_five wr w.heap.size (w.heap.size + 1) _ _ _ _ _ (by omega))]
      exact (one_cell hG).1)
  · exact (hB.trans (below_five w.heap.size wr w.heap.size _ _ _ _ _ (Nat.le_refl _))).setCell (p := ⟨w.heap.size + 1, 0, none⟩) (by simp) _

set_option maxHeartbeats 4000000 in
set_option maxRecDepth 100000 in
theorem parse_any (b : Nat) (l : List UInt8) (bv : Value) (w : World) (hS : Slice w b bv l) (hb : b < w.heap.size) (hE : Env w) :
    Calls Tryd.prog 7 #[bv] w fun e w' => ∃ cs, e = .returned (.tuple #[.agg cs.toArray, .int .i64 (parse l).2]) ∧ VAt w' (fun k => w.heap.size ≤ k ∧ k < w'.heap.size) (parse l).1 cs ∧ Below w.heap.size w w' := by
  obtain ⟨R, hR⟩ : ∃ R, parse l = R := ⟨_, rfl⟩
  rw [hR]
  have hS0 := hS
  obtain ⟨p, c, rfl, hlc, hcm, hp⟩ := hS
  have hmf : ∀ (fn : Fn) (first cap : Array Value) (w : World), (Instr.makeFunc fn first cap).run Tryd.prog w = .ok (.func fn first cap) w := fun _ _ _ _ => rfl
  unfold parse at hR
  clear hp
  have hB2 : Below w.heap.size w ((w.alloc (Obj.cells #[Value.int IntKind.u8 0, Value.int IntKind.i64 0, Value.string { data := #[] }, Value.slice none 0 0, Value.slice none 0 0] 27)).alloc (Obj.cells #[Value.int IntKind.i64 0] 28)) := ((Below.refl _ _).alloc (Nat.le_refl _) _).alloc (by simp) _
  by_cases hl : 65536 < l.length
  · rw [if_pos hl] at hR
    subst hR
    have hl' : decide ((65536 : Int) < (l.length : Int)) = true := by simp only [decide_eq_true_eq]; omega
    clear hB2
    go_enter_defers Tryd.func7, Tryd.ntmps7
    go_wp2
    refine door_ret ?_
    refine parse_end (g := w.heap.size) (h := w.heap.size + 1) (a := .int .u8 0) (b := .int .i64 0) (c := .string ⟨#[]⟩) (d := .slice none 0 0) (e := .slice none 0 0) (x := .int .i64 6) rfl rfl ?_ ?_ ⟨[.int .u8 0, .int .i64 0, .string ⟨#[]⟩, .slice none 0 0, .slice none 0 0], rfl, at_leaf _ _ _ _ _, ((Below.refl _ _).alloc (Nat.le_refl _) _).alloc (by simp) _⟩
    · exact Five.same (w := w.alloc (Obj.cells #[Value.int IntKind.u8 0, Value.int IntKind.i64 0, Value.string { data := #[] }, Value.slice none 0 0, Value.slice none 0 0] 27)) (heap_alloc_new w _) (Below.heap_alloc _ _ _ (by simp))
    · have := new_cells (w.alloc (Obj.cells #[Value.int IntKind.u8 0, Value.int IntKind.i64 0, Value.string { data := #[] }, Value.slice none 0 0, Value.slice none 0 0] 27)) #[Value.int IntKind.i64 6] 28 0 _ rfl
      rw [show (w.alloc (Obj.cells #[Value.int IntKind.u8 0, Value.int IntKind.i64 0, Value.string { data := #[] }, Value.slice none 0 0, Value.slice none 0 0] 27)).heap.size = w.heap.size + 1 by simp] at this
      exact this
  · rw [if_neg hl] at hR
    have HR := Lib.hid hR
    clear hR
    have hl' : decide ((65536 : Int) < (l.length : Int)) = false := by simp only [decide_eq_false_iff_not]; omega
    have hB3 : Below w.heap.size w (((w.alloc (Obj.cells #[Value.int IntKind.u8 0, Value.int IntKind.i64 0, Value.string { data := #[] }, Value.slice none 0 0, Value.slice none 0 0] 27)).alloc (Obj.cells #[Value.int IntKind.i64 0] 28)).alloc (Obj.cells #[Value.slice p l.length c] 45)) := hB2.alloc (by simp; omega) _
    have hF0 : Five (((w.alloc (Obj.cells #[Value.int IntKind.u8 0, Value.int IntKind.i64 0, Value.string { data := #[] }, Value.slice none 0 0, Value.slice none 0 0] 27)).alloc (Obj.cells #[Value.int IntKind.i64 0] 28)).alloc (Obj.cells #[Value.slice p l.length c] 45)) w.heap.size (.int .u8 0) (.int .i64 0) (.string ⟨#[]⟩) (.slice none 0 0) (.slice none 0 0) :=
      Five.same (w := (w.alloc (Obj.cells #[Value.int IntKind.u8 0, Value.int IntKind.i64 0, Value.string { data := #[] }, Value.slice none 0 0, Value.slice none 0 0] 27)).alloc (Obj.cells #[Value.int IntKind.i64 0] 28)) (Five.same (w := w.alloc (Obj.cells #[Value.int IntKind.u8 0, Value.int IntKind.i64 0, Value.string { data := #[] }, Value.slice none 0 0, Value.slice none 0 0] 27)) (heap_alloc_new w _) (Below.heap_alloc _ _ _ (by simp))) (Below.heap_alloc _ _ _ (by simp; omega))
    have hs1 : (w.alloc (Obj.cells #[Value.int IntKind.u8 0, Value.int IntKind.i64 0, Value.string { data := #[] }, Value.slice none 0 0, Value.slice none 0 0] 27)).heap.size = w.heap.size + 1 := by simp
    have hs2 : ((w.alloc (Obj.cells #[Value.int IntKind.u8 0, Value.int IntKind.i64 0, Value.string { data := #[] }, Value.slice none 0 0, Value.slice none 0 0] 27)).alloc (Obj.cells #[Value.int IntKind.i64 0] 28)).heap.size = w.heap.size + 1 + 1 := by simp
    have hs3 : (((w.alloc (Obj.cells #[Value.int IntKind.u8 0, Value.int IntKind.i64 0, Value.string { data := #[] }, Value.slice none 0 0, Value.slice none 0 0] 27)).alloc (Obj.cells #[Value.int IntKind.i64 0] 28)).alloc (Obj.cells #[Value.slice p l.length c] 45)).heap.size = w.heap.size + 1 + 1 + 1 := by simp
    have hG0 : (((w.alloc (Obj.cells #[Value.int IntKind.u8 0, Value.int IntKind.i64 0, Value.string { data := #[] }, Value.slice none 0 0, Value.slice none 0 0] 27)).alloc (Obj.cells #[Value.int IntKind.i64 0] 28)).alloc (Obj.cells #[Value.slice p l.length c] 45)).heap[w.heap.size + 1]? = some (.cells #[Value.int IntKind.i64 0] 28 (0, 0)) := by
      rw [Below.heap_alloc _ _ _ (by rw [hs2]; omega), ← hs1]
      exact heap_alloc_new _ _
    have hR0 : Rd (((w.alloc (Obj.cells #[Value.int IntKind.u8 0, Value.int IntKind.i64 0, Value.string { data := #[] }, Value.slice none 0 0, Value.slice none 0 0] 27)).alloc (Obj.cells #[Value.int IntKind.i64 0] 28)).alloc (Obj.cells #[Value.slice p l.length c] 45)) (w.heap.size + 1 + 1) b l := by
      have h1 : (((w.alloc (Obj.cells #[Value.int IntKind.u8 0, Value.int IntKind.i64 0, Value.string { data := #[] }, Value.slice none 0 0, Value.slice none 0 0] 27)).alloc (Obj.cells #[Value.int IntKind.i64 0] 28)).alloc (Obj.cells #[Value.slice p l.length c] 45)).heap[w.heap.size + 1 + 1]? = some (.cells #[.slice p l.length c] 45 (0, 0)) := by
        rw [← hs2]; exact heap_alloc_new _ _
      exact ⟨.slice p l.length c, (one_cell h1).1, (one_cell h1).2, by omega, hS0.same fun _ => hB3.block b hb⟩
    have hE0 := hE.below hB3 hE.size
    have hng := hE.size
    have HB3 := Lib.hid hB3
    have HF0 := Lib.hid hF0
    have HS3 := Lib.hid hs3
    have HG0 := Lib.hid hG0
    have HR0 := Lib.hid hR0
    have HE0 := Lib.hid hE0
    clear hB2 hB3 hF0 hs1 hs2 hs3 hG0 hR0 hE0 hS0 hE
    go_enter_defers Tryd.func7, Tryd.ntmps7
    go_wp2_with fail
    generalize (((w.alloc (Obj.cells #[Value.int IntKind.u8 0, Value.int IntKind.i64 0, Value.string { data := #[] }, Value.slice none 0 0, Value.slice none 0 0] 27)).alloc (Obj.cells #[Value.int IntKind.i64 0] 28)).alloc (Obj.cells #[Value.slice p l.length c] 45)) = w0 at *
    refine (value_of (3 * l.length + 1) (w.heap.size + 1 + 1) b 0 l w0 (by omega) (by omega) HR0.out HE0.out (by omega) (by omega) (by omega)).mono ?_
    intro e w1 hp
    cases hx : value (3 * l.length + 1) 0 l with
    | err cc =>
      obtain ⟨rfl, hk⟩ := hp.get_err hx
      have HF : Hid ((nul, cc) = R) := by have := HR.out; rw [hx] at this; exact this
      have hG1 : w1.heap[w.heap.size + 1]? = _ := (hk.block _ (by have := HS3.out; omega) (by omega)).trans HG0.out
      have hF1 := HF0.out.kept hk (by omega)
      have hB1 : Below w.heap.size w w1 := HB3.out.trans (hk.below (by have := HS3.out; omega) (by omega))
      have hf := HF.out
      subst hf
      refine door_panic ?_
      exact parse_caught rfl rfl hF1 hG1 hB1
    | ok v rest =>
      obtain ⟨cs, rfl, hV, hR1, hk⟩ := hp.get_ok hx
      have HF : Hid ((if (blanks rest).length = 0 then (v, 0) else (nul, 5)) = R) := by have := HR.out; rw [hx] at this; exact this
      have hs3 := HS3.out
      have hG1 : w1.heap[w.heap.size + 1]? = some (.cells #[Value.int IntKind.i64 0] 28 (0, 0)) := (hk.block _ (by omega) (by omega)).trans HG0.out
      have hF1 := HF0.out.kept hk (by omega)
      have hB1 : Below w.heap.size w w1 := HB3.out.trans (hk.below (by omega) (by omega))
      have hE1 := HE0.out.kept hk (by omega)
      have hk1 := hk.size
      obtain ⟨p3, d3, p4, d4, hcs, _, _, _, _⟩ := hV.shape
      simp only [strv] at hcs
      subst hcs
      have hF2 := hF1.put (.int .u8 v.kind) (.int .i64 v.num) (.string ⟨v.text.toArray⟩) (.slice p3 v.kids.length d3) (.slice p4 v.names.length d4)
      have hoth := fun k (hk : k ≠ w.heap.size) => other_five w1 w.heap.size k (.int .u8 v.kind) (.int .i64 v.num) (.string ⟨v.text.toArray⟩) (.slice p3 v.kids.length d3) (.slice p4 v.names.length d4) hk
      have hB2 := hB1.trans (below_five w.heap.size w1 w.heap.size (.int .u8 v.kind) (.int .i64 v.num) (.string ⟨v.text.toArray⟩) (.slice p3 v.kids.length d3) (.slice p4 v.names.length d4) (Nat.le_refl _))
      have hsz2 := size_five w1 w.heap.size (.int .u8 v.kind) (.int .i64 v.num) (.string ⟨v.text.toArray⟩) (.slice p3 v.kids.length d3) (.slice p4 v.names.length d4)
      have HV2 := Lib.hid (VAt.mono (ok' := fun k => w.heap.size + 3 ≤ k ∧ k < w1.heap.size) (fun k hk' => ⟨by omega, hk'.2⟩) _ _ (VAt.same (fun k hk' => hoth k (by omega)) _ _ hV))
      have HG2 := Lib.hid ((hoth (w.heap.size + 1) (by omega)).trans hG1)
      have HR2 := Lib.hid (hR1.same (hoth _ (by omega)) (fun _ => hoth b (by omega)))
      obtain ⟨a0, a1, a2, a3, a4⟩ := hF1.cells
      obtain ⟨d0, d1, d2, d3', d4'⟩ := hF1.free
      have HF2 := Lib.hid hF2
      have HB2 := Lib.hid hB2
      have HSZ2 := Lib.hid hsz2
      clear hx hp hk HR hG1 hF1 hB1 hE1 hV hF2 hoth hB2 hsz2 HB3 HF0 HS3 HG0 HR0 HE0 hR1
      go_wp2_with fail
      generalize (((((w1.setCell ⟨w.heap.size, 0, none⟩ (.int .u8 v.kind)).setCell ⟨w.heap.size, 1, none⟩ (.int .i64 v.num)).setCell ⟨w.heap.size, 2, none⟩ (.string ⟨v.text.toArray⟩)).setCell ⟨w.heap.size, 3, none⟩ (.slice p3 v.kids.length d3)).setCell ⟨w.heap.size, 4, none⟩ (.slice p4 v.names.length d4)) = w2 at *
      refine (blanks_any (w.heap.size + 1 + 1) b rest w2 HR2.out).mono ?_
      rintro e w3 ⟨rfl, hR3, hK3⟩
      have hs2 := HSZ2.out
      have hF3 := HF2.out.kept hK3 (by omega)
      have hG3 := (hK3.block _ (by omega) (by omega)).trans HG2.out
      have hB3 := HB2.out.trans (hK3.below (by omega) (by omega) : Below w.heap.size w2 w3)
      have hV3 := VAt.same (fun k hk' => hK3.block k (by omega) (by omega)) _ _ HV2.out
      have hz3 := hK3.size
      have HV3 := Lib.hid (VAt.mono (ok' := fun k => w.heap.size + 3 ≤ k ∧ k < w3.heap.size) (fun k hk' => by omega) _ _ hV3)
      obtain ⟨a0', a1', a2', a3', a4'⟩ := hF3.cells
      obtain ⟨f0, f1, f2, f3, f4⟩ := hF3.free
      obtain ⟨g0, g1⟩ := one_cell hG3
      have HF3 := Lib.hid hF3
      have HG3 := Lib.hid hG3
      have HB3 := Lib.hid hB3
      clear a0 a1 a2 a3 a4 d0 d1 d2 d3' d4' HV2 HG2 HR2 HF2 HB2 HSZ2 hF3 hG3 hB3 hV3 hK3
      have HFF : Hid ((if (blanks rest).length = 0 then (v, 0) else (nul, 5)) = R) := HF
      clear HF
      obtain ⟨m, hm⟩ : ∃ m, blanks rest = m := ⟨_, rfl⟩
      rw [hm] at HFF hR3
      clear hm
      cases m with
      | nil =>
        have hf : (v, (0 : Int)) = R := HFF.out
        subst hf
        clear HFF
        obtain ⟨v5, h1, h2, h3, h4⟩ := hR3
        obtain ⟨p5, c5, rfl, hc5⟩ := h4.nil
        clear h4 h2 h3
        go_wp2_with (first | (go_at_call 18; (with_reducible refine (need_t _).mono ?_); rintro e w' ⟨rfl, rfl⟩))
        refine door_ret ?_
        refine leaves_cons (f := 15) (args := #[.pointer (some ⟨w.heap.size, 0, none⟩), .pointer (some ⟨w.heap.size + 1, 0, none⟩)]) (by simp) (by simp [go_sem]) ?_
        refine (catch_idle w.heap.size (w.heap.size + 1) _).mono ?_
        rintro e u' w'' ⟨rfl, rfl, rfl⟩
        have hp5 := HF3.out.put (.int .u8 v.kind) (.int .i64 v.num) (.string ⟨v.text.toArray⟩) (.slice p3 v.kids.length d3) (.slice p4 v.names.length d4)
        have hg5 : (((((w3.setCell ⟨w.heap.size, 0, none⟩ (.int .u8 v.kind)).setCell ⟨w.heap.size, 1, none⟩ (.int .i64 v.num)).setCell ⟨w.heap.size, 2, none⟩ (.string ⟨v.text.toArray⟩)).setCell ⟨w.heap.size, 3, none⟩ (.slice p3 v.kids.length d3)).setCell ⟨w.heap.size, 4, none⟩ (.slice p4 v.names.length d4)).cell? ⟨w.heap.size + 1, 0, none⟩ = some (.int .i64 0) := by
          rw [World.cell?_of_block (w := w3) (a := ⟨w.heap.size + 1, 0, none⟩) (other_five w3 w.heap.size (w.heap.size + 1) _ _ _ _ _ (by omega))]
          exact g0
        refine parse_end (g := w.heap.size) (h := w.heap.size + 1) rfl rfl (hp5.same (Below.heap_setCell _ _ _ _ (by simp))) (World.cell?_setCell_same _ _ _ hg5) ⟨_, rfl, ?_, ?_⟩
        · refine VAt.mono (ok := fun k => w.heap.size + 3 ≤ k ∧ k < w3.heap.size) (fun k hk => ?_) _ _ (VAt.same (w := w3) (fun k hk => ?_) _ _ HV3.out)
          · simp only [size_setCell1]; omega
          · rw [Below.heap_setCell _ _ _ _ (by simp; omega), other_five _ _ _ _ _ _ _ _ (by omega)]
        · exact (HB3.out.trans (below_five w.heap.size w3 w.heap.size _ _ _ _ _ (Nat.le_refl _))).setCell (p := ⟨w.heap.size + 1, 0, none⟩) (by simp) _
      | cons x m =>
        have hf : (nul, (5 : Int)) = R := HFF.out
        subst hf
        clear HFF
        obtain ⟨v5, h1, h2, h3, h4⟩ := hR3
        obtain ⟨o5, c5, rfl, _, _, _⟩ := h4.cons (by simp)
        have ht : ((((x :: m).length : Nat) : Int) == 0) = false := by rw [beq_eq_false_iff_ne]; simp; omega
        obtain ⟨ln, hln⟩ : ∃ n, (x :: m).length = n := ⟨_, rfl⟩
        rw [hln] at ht h1
        clear h4 h2 h3 hln
        go_wp2_with (first | (go_at_call 18; (with_reducible refine (need_f _).mono ?_); rintro e w' ⟨rfl, rfl⟩))
        refine door_panic ?_
        exact parse_caught rfl rfl HF3.out HG3.out HB3.out
end Go.Proofs.YtcmlppknfbndaaaDoor
