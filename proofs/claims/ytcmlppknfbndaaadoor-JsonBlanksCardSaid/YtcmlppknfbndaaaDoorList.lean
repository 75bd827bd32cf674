/-
  json's reader: list. Conditions: each contract's own.
-/
import Derived.Test.YtcmlppknfbndaaaDoorLen
import Derived.Test.YtcmlppknfbndaaaDoorApp
import Derived.Deep.DeepMust
namespace Go.Proofs.YtcmlppknfbndaaaDoor
open Go.RowKit Js

/-- What a reader of values comes to. -/
def ValPost (r b : Nat) (w : World) (x : Res V) (e : Ending) (w' : World) : Prop :=
  match x with
  | .ok v rest => ∃ cs, e = .returned (.agg cs.toArray) ∧ VAt w' (fun k => w.heap.size ≤ k ∧ k < w'.heap.size) v cs ∧ Rd w' r b rest ∧ Kept w.heap.size r w w'
  | .err c => Panics c e ∧ Kept w.heap.size r w w'
theorem ValPost.ok {r b : Nat} {w : World} {x : Res V} {e : Ending} {w' : World} {v : V} {rest : List UInt8} (hx : x = .ok v rest)
    (h : ∃ cs, e = .returned (.agg cs.toArray) ∧ VAt w' (fun k => w.heap.size ≤ k ∧ k < w'.heap.size) v cs ∧ Rd w' r b rest ∧ Kept w.heap.size r w w') : ValPost r b w x e w' := by subst hx; exact h
theorem ValPost.err {r b : Nat} {w : World} {x : Res V} {e : Ending} {w' : World} {c : Int} (hx : x = .err c) (h : Panics c e ∧ Kept w.heap.size r w w') : ValPost r b w x e w' := by subst hx; exact h
theorem ValPost.get_ok {r b : Nat} {w : World} {x : Res V} {e : Ending} {w' : World} {v : V} {rest : List UInt8} (h : ValPost r b w x e w') (hx : x = .ok v rest) :
    ∃ cs, e = .returned (.agg cs.toArray) ∧ VAt w' (fun k => w.heap.size ≤ k ∧ k < w'.heap.size) v cs ∧ Rd w' r b rest ∧ Kept w.heap.size r w w' := by subst hx; exact h
theorem ValPost.get_err {r b : Nat} {w : World} {x : Res V} {e : Ending} {w' : World} {c : Int} (h : ValPost r b w x e w') (hx : x = .err c) : Panics c e ∧ Kept w.heap.size r w w' := by subst hx; exact h

def ValueOk (f : Nat) : Prop := ∀ (r b : Nat) (n : Int) (l : List UInt8) (w : World), 0 ≤ n → n ≤ 8 → Rd w r b l → Env w → NG ≤ r → l.length ≤ 1099511627776 → 3 * l.length < f →
  Calls Tryd.prog 16 #[.pointer (some ⟨r, 0, none⟩), .int .i64 n] w (ValPost r b w (value f n l))
def ListOk (f : Nat) : Prop := ∀ (r b : Nat) (n : Int) (l : List UInt8) (w : World), 0 ≤ n → n ≤ 8 → Rd w r b l → Env w → NG ≤ r → l.length ≤ 1099511627776 → 3 * l.length + 2 < f →
  Calls Tryd.prog 28 #[.pointer (some ⟨r, 0, none⟩), .int .i64 n] w (ValPost r b w (list f n l))

/-- A block of five cells. -/
def Five (w : World) (g : Nat) (a b c d e : Value) : Prop := w.heap[g]? = some (.cells #[a, b, c, d, e] 27 (0, 0))
theorem Five.cells {w : World} {g : Nat} {a b c d e : Value} (h : Five w g a b c d e) :
    w.cell? ⟨g, 0, none⟩ = some a ∧ w.cell? ⟨g, 1, none⟩ = some b ∧ w.cell? ⟨g, 2, none⟩ = some c ∧ w.cell? ⟨g, 3, none⟩ = some d ∧ w.cell? ⟨g, 4, none⟩ = some e := by
  unfold Five at h
  simp [World.cell?, h]
theorem Five.free {w : World} {g : Nat} {a b c d e : Value} (h : Five w g a b c d e) :
    w.frozen? ⟨g, 0, none⟩ = false ∧ w.frozen? ⟨g, 1, none⟩ = false ∧ w.frozen? ⟨g, 2, none⟩ = false ∧ w.frozen? ⟨g, 3, none⟩ = false ∧ w.frozen? ⟨g, 4, none⟩ = false := by
  unfold Five at h
  simp [World.frozen?, h]
theorem Five.lt {w : World} {g : Nat} {a b c d e : Value} (h : Five w g a b c d e) : g < w.heap.size := cell_lt h.cells.1
theorem Five.same {w w' : World} {g : Nat} {a b c d e : Value} (h : Five w g a b c d e) (hs : w'.heap[g]? = w.heap[g]?) : Five w' g a b c d e := hs.trans h
theorem Five.kept {w w' : World} {g r : Nat} {a b c d e : Value} (h : Five w g a b c d e) (k : Kept w.heap.size r w w') (hr : g ≠ r) : Five w' g a b c d e := h.same (k.block g h.lt hr)

theorem Five.put {w : World} {g : Nat} {a b c d e : Value} (h : Five w g a b c d e) (a' b' c' d' e' : Value) :
    Five (((((w.setCell ⟨g, 0, none⟩ a').setCell ⟨g, 1, none⟩ b').setCell ⟨g, 2, none⟩ c').setCell ⟨g, 3, none⟩ d').setCell ⟨g, 4, none⟩ e') g a' b' c' d' e' := by
  unfold Five at h ⊢
  simp only [World.setCell, Array.getElem?_modify, if_true, h, Option.map_some]
  simp
theorem Five.put3 {w : World} {g : Nat} {a b c d e : Value} (h : Five w g a b c d e) (d' : Value) : Five (w.setCell ⟨g, 3, none⟩ d') g a b c d' e := by
  unfold Five at h ⊢
  simp only [World.setCell, Array.getElem?_modify, if_true, h, Option.map_some]
  simp
theorem Five.load {w : World} {g : Nat} {a b c d e : Value} (h : Five w g a b c d e) : (loadVar 27 ⟨g, 0, none⟩).run Tryd.prog w = .ok (.agg #[a, b, c, d, e]) w := by
  obtain ⟨h0, h1, h2, h3, h4⟩ := h.cells
  simp [go_sem, h0, h1, h2, h3, h4]
theorem results_five {fn : Func} {p : Tmp} (hf : fn.results = #[.cell p 27]) {tmps : Array Value} {w : World} {g : Nat} {a b c d e : Value} (hp : tmps.getD p undef = .pointer (some ⟨g, 0, none⟩)) (h : Five w g a b c d e) :
    (results fn tmps).run Tryd.prog w = .ok (.agg #[a, b, c, d, e]) w := by
  simp only [results, hf]
  simp only [Array.getD_eq_getD_getElem?] at hp
  simp [hp, h.load, asAddr]
theorem below_five (B : Nat) (w : World) (g : Nat) (a b c d e : Value) (hg : B ≤ g) : Below B w (((((w.setCell ⟨g, 0, none⟩ a).setCell ⟨g, 1, none⟩ b).setCell ⟨g, 2, none⟩ c).setCell ⟨g, 3, none⟩ d).setCell ⟨g, 4, none⟩ e) :=
  (((((Below.refl B w).setCell (p := ⟨g, 0, none⟩) hg a).setCell (p := ⟨g, 1, none⟩) hg b).setCell (p := ⟨g, 2, none⟩) hg c).setCell (p := ⟨g, 3, none⟩) hg d).setCell (p := ⟨g, 4, none⟩) hg e
theorem other_five (w : World) (g k : Nat) (a b c d e : Value) (hk : k ≠ g) : (((((w.setCell ⟨g, 0, none⟩ a).setCell ⟨g, 1, none⟩ b).setCell ⟨g, 2, none⟩ c).setCell ⟨g, 3, none⟩ d).setCell ⟨g, 4, none⟩ e).heap[k]? = w.heap[k]? := by
  rw [Below.heap_setCell _ _ _ _ hk, Below.heap_setCell _ _ _ _ hk, Below.heap_setCell _ _ _ _ hk, Below.heap_setCell _ _ _ _ hk, Below.heap_setCell _ _ _ _ hk]
theorem size_five (w : World) (g : Nat) (a b c d e : Value) : (((((w.setCell ⟨g, 0, none⟩ a).setCell ⟨g, 1, none⟩ b).setCell ⟨g, 2, none⟩ c).setCell ⟨g, 3, none⟩ d).setCell ⟨g, 4, none⟩ e).heap.size = w.heap.size := by
  simp [World.setCell]

theorem infoV : (Tryd.prog.info? 27).map (fun i => (i.zero, i.size, i.bytes)) = some (some (.agg #[.int .u8 0, .int .i64 0, .string ⟨#[]⟩, .slice none 0 0, .slice none 0 0]), 5, 80) := by kernel_rfl

/-- A value that is laid in the result's block, and told. -/
theorem val_ret {w w2 : World} {r b N : Nat} {v : V} {c0 c1 c2 c3 c4 a0 a1 a2 a3 a4 : Value} {rest : List UInt8} {R : Res V} (hx : R = .ok v rest) (_hF : Five w2 N a0 a1 a2 a3 a4) (hN : w.heap.size ≤ N)
    (hV : VAt w2 (fun k => w.heap.size ≤ k ∧ k < w2.heap.size ∧ k ≠ N) v [c0, c1, c2, c3, c4]) (hR : Rd w2 r b rest) (hb : b < w.heap.size) (hr : r < w.heap.size) (hK : Kept w.heap.size r w w2) :
    ValPost r b w R (.returned (.agg #[c0, c1, c2, c3, c4])) (((((w2.setCell ⟨N, 0, none⟩ c0).setCell ⟨N, 1, none⟩ c1).setCell ⟨N, 2, none⟩ c2).setCell ⟨N, 3, none⟩ c3).setCell ⟨N, 4, none⟩ c4) := by
  refine ValPost.ok hx ⟨[c0, c1, c2, c3, c4], rfl, ?_, ?_, ?_⟩
  · refine VAt.mono (fun k hk => ?_) _ _ (VAt.same (fun k hk => other_five w2 N k _ _ _ _ _ hk.2.2) _ _ hV)
    rw [size_five]
    exact ⟨hk.1, hk.2.1⟩
  · exact hR.same (other_five w2 N r _ _ _ _ _ (by omega)) (fun _ => other_five w2 N b _ _ _ _ _ (by omega))
  · exact hK.trans (Kept.of_below (below_five w.heap.size w2 N _ _ _ _ _ hN))

/-- What the loop over a list's elements holds. -/
structure ElemsAt (B r b : Nat) (n : Int) (L : Nat) (w : World) (R : Res V) (g : Nat) (wr : World) : Prop where
  ex : ∃ acc l kv css, elems g n acc l = R ∧ 3 * l.length + 1 < g ∧ acc.length + l.length ≤ L ∧ Rd wr r b l ∧ Five wr (B + 1) (.int .u8 4) (.int .i64 0) (.string ⟨#[]⟩) kv (.slice none 0 0) ∧
    wr.ownsRow (B + 2) 27 5 kv acc.length css.flatten ∧ VAll wr (fun k => B + 2 ≤ k ∧ k < wr.heap.size ∧ some k ≠ kv.ownBlock) acc css
  res : Five wr B (.int .u8 0) (.int .i64 0) (.string ⟨#[]⟩) (.slice none 0 0) (.slice none 0 0)
  kept : Kept B r w wr
  size : B + 2 ≤ wr.heap.size
  env : Env wr

/-- Behind the append of one element. -/
theorem elems_next {B r b n : Nat} {w w2 w3 : World} {o1 o2 : Obj} {l1 : List UInt8} {kv v' : Value} {acc : List V} {css : List (List Value)} {v : V} {cs : List Value}
    (hR : Rd w2 r b l1) (hE : Env w2) (hF : Five w2 (B + 1) (.int .u8 4) (.int .i64 0) (.string ⟨#[]⟩) kv (.slice none 0 0)) (hF0 : Five w2 B (.int .u8 0) (.int .i64 0) (.string ⟨#[]⟩) (.slice none 0 0) (.slice none 0 0))
    (hown : w2.ownsRow (B + 2) 27 5 kv n css.flatten) (hall : VAll w2 (fun k => B + 2 ≤ k ∧ k < w2.heap.size ∧ some k ≠ kv.ownBlock) acc css)
    (hv : VAt w2 (fun k => B + 2 ≤ k ∧ k < w2.heap.size ∧ some k ≠ kv.ownBlock) v cs) (hK : Kept B r w w2) (hsz : B + 2 ≤ w2.heap.size) (hr : r < B) (hb : b < B) (hrg : NG ≤ r)
    (hg : ((w2.alloc o1).alloc o2).grownBy w3 kv.ownBlock) (hown3 : w3.ownsRow (B + 2) 27 5 v' (n + 1) (css.flatten ++ cs)) (hfr : Fresh ((w2.alloc o1).alloc o2) kv v') :
    w3.cell? ⟨B + 1, 3, none⟩ = some kv ∧ w3.frozen? ⟨B + 1, 3, none⟩ = false ∧
    Rd (w3.setCell ⟨B + 1, 3, none⟩ v') r b l1 ∧ Env (w3.setCell ⟨B + 1, 3, none⟩ v') ∧ Five (w3.setCell ⟨B + 1, 3, none⟩ v') (B + 1) (.int .u8 4) (.int .i64 0) (.string ⟨#[]⟩) v' (.slice none 0 0) ∧
    Five (w3.setCell ⟨B + 1, 3, none⟩ v') B (.int .u8 0) (.int .i64 0) (.string ⟨#[]⟩) (.slice none 0 0) (.slice none 0 0) ∧
    (w3.setCell ⟨B + 1, 3, none⟩ v').ownsRow (B + 2) 27 5 v' (n + 1) (css ++ [cs]).flatten ∧
    VAll (w3.setCell ⟨B + 1, 3, none⟩ v') (fun k => B + 2 ≤ k ∧ k < (w3.setCell ⟨B + 1, 3, none⟩ v').heap.size ∧ some k ≠ v'.ownBlock) (acc ++ [v]) (css ++ [cs]) ∧
    Kept B r w (w3.setCell ⟨B + 1, 3, none⟩ v') ∧ B + 2 ≤ (w3.setCell ⟨B + 1, 3, none⟩ v').heap.size := by
  have hlow := hown.lt
  have hlow3 := hown3.lt
  have hsz3 : w2.heap.size + 2 ≤ w3.heap.size := by have := hg.size; simp at this; omega
  have old : ∀ k, k < w2.heap.size → some k ≠ kv.ownBlock → w3.heap[k]? = w2.heap[k]? := fun k hk hne => by
    rw [hg.block k (by simp; omega) hne, Below.heap_alloc _ _ _ (by simp; omega), Below.heap_alloc _ _ _ hk]
  have lowB : ∀ k, k < B + 2 → some k ≠ kv.ownBlock := fun k hk e => by have := (hlow k e.symm).1; omega
  have hset : ∀ k, k ≠ B + 1 → (w3.setCell ⟨B + 1, 3, none⟩ v').heap[k]? = w3.heap[k]? := fun k hk => Below.heap_setCell _ _ _ _ hk
  have hF3 : Five w3 (B + 1) (.int .u8 4) (.int .i64 0) (.string ⟨#[]⟩) kv (.slice none 0 0) := hF.same (old _ hF.lt (lowB _ (by omega)))
  have hssz : (w3.setCell ⟨B + 1, 3, none⟩ v').heap.size = w3.heap.size := by simp [World.setCell]
  have hvb : ∀ k, some k = v'.ownBlock → B + 2 ≤ k ∧ (some k = kv.ownBlock ∨ w2.heap.size ≤ k) := fun k hk => by
    refine ⟨(hlow3 k hk.symm).1, ?_⟩
    rcases hfr with h | ⟨j, h, hj⟩
    · left; rw [hk, h]
    · right
      rw [h] at hk
      simp at hk hj
      omega
  refine ⟨hF3.cells.2.2.2.1, hF3.free.2.2.2.1, ?_, ?_, hF3.put3 v', ?_, ?_, ?_, ?_, by omega⟩
  · exact hR.same (by rw [hset r (by omega)]; exact old r (by omega) (lowB r (by omega))) (fun _ => by rw [hset b (by omega)]; exact old b (by omega) (lowB b (by omega)))
  · exact hE.same fun k hk => by rw [hset k (by omega)]; exact old k (by omega) (lowB k (by omega))
  · exact (hF0.same (old _ hF0.lt (lowB _ (by omega)))).same (hset _ (by omega))
  · have := ownsRow_setCell_below hown3 (a := ⟨B + 1, 3, none⟩) (by simp) v'
    simpa using this
  · refine VAll.mono (ok := fun k => B + 2 ≤ k ∧ k < w2.heap.size ∧ some k ≠ kv.ownBlock) (fun k hk => ?_) _ _ (VAll.same (w := w2) (fun k hk => ?_) _ _ (VAll.snoc hv hall))
    · refine ⟨hk.1, by omega, fun e => ?_⟩
      rcases (hvb k e).2 with h | h
      · exact hk.2.2 h
      · omega
    · rw [hset k (by omega)]; exact old k hk.2.1 hk.2.2
  · refine (hK.trans ⟨?_, ?_, ?_, by omega, fun k hk hkr => ?_⟩)
    · exact hg.os
    · exact hg.tape
    · exact hg.output
    · rw [hset k (by omega)]; exact old k (by omega) (lowB k (by omega))

set_option maxHeartbeats 4000000 in
set_option maxRecDepth 100000 in
theorem list_hb (f : Nat) (hv : ∀ g, g < f → ValueOk g) (r b : Nat) (n : Int) (l : List UInt8) (w : World) (hn0 : 0 ≤ n) (hn8 : n ≤ 8) (h : Rd w r b l) (hE : Env w) (hr : NG ≤ r) (hL : l.length ≤ 1099511627776) (hf : 3 * l.length + 2 < f) (hb : b < w.heap.size) :
    Calls Tryd.prog 28 #[.pointer (some ⟨r, 0, none⟩), .int .i64 n] w (ValPost r b w (list f n l)) := by
  obtain ⟨R, hR⟩ : ∃ R, list f n l = R := ⟨_, rfl⟩
  rw [hR]
  obtain ⟨f, rfl⟩ : ∃ g, f = g + 1 := ⟨f - 1, by omega⟩
  unfold list at hR
  have HR := Lib.hid hR
  have hrw := h.lt
  have HRW := Lib.hid hrw
  have HV := Lib.hid hv
  have HB := Lib.hid hb
  have hB2 : Below w.heap.size w ((w.alloc (Obj.cells #[Value.int IntKind.u8 0, Value.int IntKind.i64 0, Value.string { data := #[] }, Value.slice none 0 0, Value.slice none 0 0] 27)).alloc (Obj.cells #[Value.int IntKind.u8 4, Value.int IntKind.i64 0, Value.string { data := #[] }, Value.slice none 0 0, Value.slice none 0 0] 27)) :=
    ((Below.refl _ _).alloc (Nat.le_refl _) _).alloc (by simp) _
  have hF1 : Five ((w.alloc (Obj.cells #[Value.int IntKind.u8 0, Value.int IntKind.i64 0, Value.string { data := #[] }, Value.slice none 0 0, Value.slice none 0 0] 27)).alloc (Obj.cells #[Value.int IntKind.u8 4, Value.int IntKind.i64 0, Value.string { data := #[] }, Value.slice none 0 0, Value.slice none 0 0] 27)) w.heap.size (.int .u8 0) (.int .i64 0) (.string ⟨#[]⟩) (.slice none 0 0) (.slice none 0 0) := by
    unfold Five; rw [Below.heap_alloc _ _ _ (by simp)]; exact heap_alloc_new w _
  have hF2 : Five ((w.alloc (Obj.cells #[Value.int IntKind.u8 0, Value.int IntKind.i64 0, Value.string { data := #[] }, Value.slice none 0 0, Value.slice none 0 0] 27)).alloc (Obj.cells #[Value.int IntKind.u8 4, Value.int IntKind.i64 0, Value.string { data := #[] }, Value.slice none 0 0, Value.slice none 0 0] 27)) (w.heap.size + 1) (.int .u8 4) (.int .i64 0) (.string ⟨#[]⟩) (.slice none 0 0) (.slice none 0 0) := by
    unfold Five
    have := heap_alloc_new (w.alloc (Obj.cells #[Value.int IntKind.u8 0, Value.int IntKind.i64 0, Value.string { data := #[] }, Value.slice none 0 0, Value.slice none 0 0] 27)) (Obj.cells #[Value.int IntKind.u8 4, Value.int IntKind.i64 0, Value.string { data := #[] }, Value.slice none 0 0, Value.slice none 0 0] 27)
    simpa using this
  have hsz2 : ((w.alloc (Obj.cells #[Value.int IntKind.u8 0, Value.int IntKind.i64 0, Value.string { data := #[] }, Value.slice none 0 0, Value.slice none 0 0] 27)).alloc (Obj.cells #[Value.int IntKind.u8 4, Value.int IntKind.i64 0, Value.string { data := #[] }, Value.slice none 0 0, Value.slice none 0 0] 27)).heap.size = w.heap.size + 2 := by simp
  have H0 := Lib.hid (h.below hB2)
  have HE2 := Lib.hid (hE.below hB2 hE.size)
  have HF1 := Lib.hid hF1
  have HF2 := Lib.hid hF2
  have HB2 := Lib.hid hB2
  have HSZ2 := Lib.hid hsz2
  clear hR h hE hF1 hF2 hB2 hsz2 hv hb
  go_enter Tryd.func28, Tryd.ntmps28
  go_wp2_with fail
  generalize (w.alloc (Obj.cells #[Value.int IntKind.u8 0, Value.int IntKind.i64 0, Value.string { data := #[] }, Value.slice none 0 0, Value.slice none 0 0] 27)).alloc (Obj.cells #[Value.int IntKind.u8 4, Value.int IntKind.i64 0, Value.string { data := #[] }, Value.slice none 0 0, Value.slice none 0 0] 27) = w0 at *
  refine (blanks_any r b l w0 H0.out).mono ?_
  rintro e w1 ⟨rfl, hR1, hK1⟩
  have HR1 := Lib.hid hR1
  have HE1 := Lib.hid (HE2.out.kept hK1 hr)
  have hs2 := HSZ2.out
  have HF1' := Lib.hid (HF1.out.kept hK1 (by omega))
  have HF2' := Lib.hid (HF2.out.kept hK1 (by omega))
  have HK1 : Hid (Kept w.heap.size r w w1) := (Kept.of_below HB2.out).trans (hK1.mono (by omega))
  have HSZ1 : Hid (w.heap.size + 2 ≤ w1.heap.size) := by have := hK1.size; exact Lib.hid (by omega)
  clear hR1 hK1 hs2 HF1 HF2 H0 HE2 HB2 HSZ2
  have hle := blanks_le l
  have HRL : Hid ((match blanks l with | [] => .err 5 | c :: r => if c = 93 then .ok (.mk 4 0 [] [] []) r else elems f n [] (c :: r)) = R) := HR.out
  clear HR
  generalize blanks l = m at *
  cases hk : isHead m 93 with
  | true =>
    obtain ⟨l1, rfl⟩ : ∃ l1, m = 93 :: l1 := by
      cases m with
      | nil => simp [isHead] at hk
      | cons c l1 =>
        refine ⟨l1, ?_⟩
        have : (c.toNat : Int) = 93 := by simpa [isHead] using hk
        rw [show c = 93 from UInt8.toNat_inj.1 (by have h93 : (93 : UInt8).toNat = 93 := rfl; omega)]
    · have HF : Hid (R = .ok (.mk 4 0 [] [] []) l1) := HRL.out.symm
      clear HRL hk
      go_wp2_with fail
      refine (is_t r b (93 :: l1) 93 w1 HR1.out rfl).mono ?_
      rintro e w2 ⟨rfl, hR2, hK2⟩
      have hG1 := HF1'.out.kept hK2 (by omega)
      have hG2 := HF2'.out.kept hK2 (by omega)
      obtain ⟨a0, a1, a2, a3, a4⟩ := hG1.cells
      obtain ⟨b0, b1, b2, b3, b4⟩ := hG2.cells
      obtain ⟨c0, c1, c2, c3, c4⟩ := hG1.free
      have HG1 := Lib.hid hG1
      have HR2 := Lib.hid hR2
      have HK2 : Hid (Kept w.heap.size r w w2) := HK1.out.trans (hK2.mono (by have := HSZ1.out; omega))
      clear hG1 hG2 hR2 hK2
      go_wp2
      refine bodyPost_ret (v := .agg #[.int .u8 4, .int .i64 0, .string ⟨#[]⟩, .slice none 0 0, .slice none 0 0]) (results_five Tryd.results28 rfl (HG1.out.put _ _ _ _ _)) rfl ?_
      exact val_ret HF.out HG1.out (Nat.le_refl _) ⟨.slice none 0 0, .slice none 0 0, [], rfl, rfl, RowAt.nil _ _, RowAt.nil _ _⟩ HR2.out HB.out HRW.out HK2.out
  | false =>
      have HE3 : Hid (elems f n [] m = R) := by
        have h1 := HRL.out
        cases m with
        | nil =>
          rw [← h1]
          obtain ⟨g, rfl⟩ : ∃ g, f = g + 2 := ⟨f - 2, by omega⟩
          rfl
        | cons c l1 =>
          have hc : c ≠ 93 := by intro e; subst e; simp [isHead] at hk
          simp only [if_neg hc] at h1
          exact Lib.hid h1
      have HA : Hid (ElemsAt w.heap.size r b n l.length w R f w1) :=
        ⟨⟨[], m, .slice none 0 0, [], HE3.out, by omega, by simp; omega, HR1.out, HF2'.out, World.ownsRow_nil _ _ _ _, rfl⟩, HF1'.out, HK1.out, HSZ1.out, HE1.out⟩
      clear HRL HE3 HF1' HF2' HK1 HSZ1 HE1
      go_wp2_with (first | (go_at_call 27; (with_reducible refine (is_f r b m 93 _ HR1.out hk).mono ?_); rintro e w' ⟨rfl, rfl⟩))
      clear HR1 hk
      go_loopg [6] f (fun g _ wr => g ≤ f ∧ ElemsAt w.heap.size r b n l.length w R g wr)
      case atStart => exact ⟨Nat.le_refl _, HA.out⟩
      case round =>
        obtain ⟨hgf, ⟨acc, l2, kv, css, ht, hlen, hbd, hRd, hFv, hown, hall⟩, hF0, hK, hsz, hEnv⟩ := hrel
        obtain ⟨gm, rfl⟩ : ∃ gm, gk = gm + 1 := ⟨gk - 1, by omega⟩
        unfold elems at ht
        have HT := Lib.hid ht
        have HRd := Lib.hid hRd
        have HFv := Lib.hid hFv
        have HO := Lib.hid hown
        have HAll := Lib.hid hall
        have HF0 := Lib.hid hF0
        have HK := Lib.hid hK
        have HSZ := Lib.hid hsz
        have HEv := Lib.hid hEnv
        clear ht hRd hFv hown hall hF0 hK hsz hEnv HA
        go_wp2_with fail
        refine (HV.out gm (by omega) r b n l2 wr hn0 hn8 HRd.out HEv.out hr (by omega) (by omega)).mono ?_
        intro e w2 hp
        cases hx : value gm n l2 with
        | err cc =>
          obtain ⟨rfl, hk⟩ := hp.get_err hx
          have HF : Hid (R = .err cc) := by have := HT.out; rw [hx] at this; exact this.symm
          have HKF : Hid (Kept w.heap.size r w w2) := HK.out.trans (hk.mono (by have := HSZ.out; omega))
          clear hx hp hk HT
          exact ⟨rfl, ValPost.err HF.out ⟨rfl, HKF.out⟩⟩
        | ok v l3 =>
          obtain ⟨cs, rfl, hV, hR3, hk⟩ := hp.get_ok hx
          have hl3 := (lens gm).value _ _ _ _ hx
          have HT2 : Hid ((match blanks l3 with | [] => .err 5 | c :: r => if c = 93 then .ok (.mk 4 0 [] (acc ++ [v]) []) r else if c = 44 then elems gm n (acc ++ [v]) r else .err 5) = R) := by have := HT.out; rw [hx] at this; exact this
          have hlow := HO.out.lt
          have hrB : r < w.heap.size := HRW.out
          have HV2 : Hid (VAt w2 (fun k => w.heap.size + 2 ≤ k ∧ k < w2.heap.size ∧ some k ≠ kv.ownBlock) v cs) := VAt.mono (fun k hk => ⟨by have := HSZ.out; omega, hk.2, fun e => by have := (hlow k e.symm).2; omega⟩) _ _ hV
          have HR3 := Lib.hid hR3
          have HE3 := Lib.hid (HEv.out.kept hk hr)
          have HFv3 := Lib.hid (HFv.out.kept hk (by omega))
          have HF03 := Lib.hid (HF0.out.kept hk (by omega))
          have HO3 : Hid (w2.ownsRow (w.heap.size + 2) 27 5 kv acc.length css.flatten) := HO.out.kept hk.grownBy (by
            cases hov : kv.ownBlock with
            | none => exact .inl rfl
            | some g => right; intro e; have := (hlow g hov).1; simp at e; omega)
          have HAll3 : Hid (VAll w2 (fun k => w.heap.size + 2 ≤ k ∧ k < w2.heap.size ∧ some k ≠ kv.ownBlock) acc css) :=
            VAll.mono (fun k hk' => ⟨hk'.1, by have := hk.size; omega, hk'.2.2⟩) _ _ (VAll.same (fun k hk' => hk.block k hk'.2.1 (by omega)) _ _ HAll.out)
          have HK3 : Hid (Kept w.heap.size r w w2) := HK.out.trans (hk.mono (by have := HSZ.out; omega))
          have HSZ3 : Hid (w.heap.size + 2 ≤ w2.heap.size) := by have := hk.size; have := HSZ.out; exact Lib.hid (by omega)
          have HONE := Lib.hid hV.one
          have HLEN := Lib.hid hV.len
          obtain ⟨p1, d1, p2, d2, hcs, _, _, _, _⟩ := hV.shape
          clear hx hp hk hV hR3 hlow hrB HT HRd HEv HFv HO HAll HF0 HK HSZ
          simp only [strv] at hcs
          subst hcs
          obtain ⟨i0, hi, hz0, hz1, hz2⟩ := info_parts infoV
          obtain ⟨a0, a1, a2, a3, a4⟩ := HFv3.out.cells
          have hz : w.heap.size + 1 < w2.heap.size := by have := HSZ3.out; omega
          have hnc := new_cells (w2.alloc (Obj.cells #[.int .u8 v.kind, .int .i64 v.num, .string ⟨v.text.toArray⟩, .slice p1 v.kids.length d1, .slice p2 v.names.length d2] 27)) #[.int .u8 v.kind, .int .i64 v.num, .string ⟨v.text.toArray⟩, .slice p1 v.kids.length d1, .slice p2 v.names.length d2] 27
          rw [show (w2.alloc (Obj.cells #[.int .u8 v.kind, .int .i64 v.num, .string ⟨v.text.toArray⟩, .slice p1 v.kids.length d1, .slice p2 v.names.length d2] 27)).heap.size = w2.heap.size + 1 by simp] at hnc
          have HNC := Lib.hid hnc
          have hsz3 := HSZ3.out
          clear hnc
          go_wp2_with (at_builtin; go_must (refine wpList_append_fresh _ rfl _ _ 24 rfl (w.heap.size + 2) 27 i0 (.agg #[.int .u8 0, .int .i64 0, .string ⟨#[]⟩, .slice none 0 0, .slice none 0 0]) 5 80 Tryd.underlying24 hi hz0 hz1 hz2 rfl (by decide) _ acc.length css.flatten rfl ((HO3.out.alloc _).alloc _) ⟨w2.heap.size + 1, 0, none⟩ 1 1 _ rfl rfl HNC.out HONE.out ?c3 ?c4 ?c5 ?_))
          case c3 => unfold maxLen; omega
          case c4 => omega
          case c5 => simp; omega
          intro v' w3 hown3 hg hfr
          obtain ⟨p3, d3, rfl, _, _, _⟩ := row_of_owned hown3 (fun _ => True) (fun _ _ => trivial)
          obtain ⟨q1, q2, q3, q4, q5, q6, q7, q8, q9, q10⟩ := elems_next HR3.out HE3.out HFv3.out HF03.out HO3.out HAll3.out HV2.out HK3.out HSZ3.out HRW.out HB.out hr hg hown3 hfr
          have HR4 := Lib.hid q3
          have HE4 := Lib.hid q4
          have HFv4 := Lib.hid q5
          have HF04 := Lib.hid q6
          have HO4 := Lib.hid q7
          have HAll4 := Lib.hid q8
          have HK4 := Lib.hid q9
          have HSZ4 := Lib.hid q10
          clear hown3 hg hfr q3 q4 q5 q6 q7 q8 q9 q10 HR3 HE3 HFv3 HF03 HO3 HAll3 HV2 HK3 HSZ3 HNC HONE HLEN hsz3 a0 a1 a2 a3 a4 hi hz0 hz1 hz2
          go_wp2_with fail
          clear q1 q2
          generalize w3.setCell ⟨w.heap.size + 1, 3, none⟩ (.slice p3 (acc.length + 1) d3) = w4 at *
          refine (blanks_any r b l3 w4 HR4.out).mono ?_
          rintro e w5 ⟨rfl, hR5, hK5⟩
          have hs4 := HSZ4.out
          have HR5 := Lib.hid hR5
          have HE5 := Lib.hid (HE4.out.kept hK5 hr)
          have HFv5 := Lib.hid (HFv4.out.kept hK5 (by omega))
          have HF05 := Lib.hid (HF04.out.kept hK5 (by omega))
          have hlow := HO4.out.lt
          have HO5 : Hid (w5.ownsRow (w.heap.size + 2) 27 5 (.slice p3 (acc.length + 1) d3) (acc.length + 1) (css ++ [([.int .u8 v.kind, .int .i64 v.num, .string ⟨v.text.toArray⟩, .slice p1 v.kids.length d1, .slice p2 v.names.length d2] : List Value)]).flatten) := HO4.out.kept hK5.grownBy (by
            cases hov : (Value.slice p3 (acc.length + 1) d3).ownBlock with
            | none => exact .inl rfl
            | some g => right; intro e; have := (hlow g hov).1; simp at e; omega)
          have HAll5 : Hid (VAll w5 (fun k => w.heap.size + 2 ≤ k ∧ k < w5.heap.size ∧ some k ≠ (Value.slice p3 (acc.length + 1) d3).ownBlock) (acc ++ [v]) (css ++ [([.int .u8 v.kind, .int .i64 v.num, .string ⟨v.text.toArray⟩, .slice p1 v.kids.length d1, .slice p2 v.names.length d2] : List Value)])) :=
            VAll.mono (fun k hk' => ⟨hk'.1, by have := hK5.size; omega, hk'.2.2⟩) _ _ (VAll.same (fun k hk' => hK5.block k hk'.2.1 (by omega)) _ _ HAll4.out)
          have HK5 : Hid (Kept w.heap.size r w w5) := HK4.out.trans (hK5.mono (by omega))
          have HSZ5 : Hid (w.heap.size + 2 ≤ w5.heap.size) := by have := hK5.size; exact Lib.hid (by omega)
          have hl4 := blanks_le l3
          clear hR5 hK5 hs4 hlow HR4 HE4 HFv4 HF04 HO4 HAll4 HK4 HSZ4
          generalize blanks l3 = l4 at *
          have HCL : Hid (acc.length + 1 = (acc ++ [v]).length) := Lib.hid (by simp)
          cases hk : isHead l4 93 with
          | true =>
            obtain ⟨l5, rfl⟩ : ∃ l5, l4 = 93 :: l5 := by
              cases l4 with
              | nil => simp [isHead] at hk
              | cons c l5 =>
                refine ⟨l5, ?_⟩
                have : (c.toNat : Int) = 93 := by simpa [isHead] using hk
                rw [show c = 93 from UInt8.toNat_inj.1 (by have h93 : (93 : UInt8).toNat = 93 := rfl; omega)]
            have HF : Hid (R = .ok (.mk 4 0 [] (acc ++ [v]) []) l5) := HT2.out.symm
            clear HT2 hk
            go_wp2_with fail
            refine (is_t r b (93 :: l5) 93 w5 HR5.out rfl).mono ?_
            rintro e w6 ⟨rfl, hR6, hK6⟩
            have hs5 := HSZ5.out
            have hG1 := HF05.out.kept hK6 (by omega)
            have hG2 := HFv5.out.kept hK6 (by omega)
            obtain ⟨a0, a1, a2, a3, a4⟩ := hG1.cells
            obtain ⟨b0, b1, b2, b3, b4⟩ := hG2.cells
            obtain ⟨c0, c1, c2, c3, c4⟩ := hG1.free
            have HG1 := Lib.hid hG1
            have HR6 := Lib.hid hR6
            have hlow := HO5.out.lt
            have hO6 : w6.ownsRow (w.heap.size + 2) 27 5 (.slice p3 (acc.length + 1) d3) (acc.length + 1) (css ++ [([.int .u8 v.kind, .int .i64 v.num, .string ⟨v.text.toArray⟩, .slice p1 v.kids.length d1, .slice p2 v.names.length d2] : List Value)]).flatten := HO5.out.kept hK6.grownBy (by
              cases hov : (Value.slice p3 (acc.length + 1) d3).ownBlock with
              | none => exact .inl rfl
              | some g => right; intro e; have := (hlow g hov).1; simp at e; omega)
            have hA6 := VAll.same (fun k hk' => hK6.block k hk'.2.1 (by omega)) _ _ HAll5.out
            have hlow6 := hO6.lt
            have HV6 : Hid (VAt w6 (fun k => w.heap.size ≤ k ∧ k < w6.heap.size ∧ k ≠ w.heap.size) (.mk 4 0 [] (acc ++ [v]) []) [.int .u8 4, .int .i64 0, .string ⟨#[]⟩, .slice p3 (acc.length + 1) d3, .slice none 0 0]) := by
              refine ⟨_, _, _, rfl, VAll.mono (fun k hk' => ⟨by omega, by have := hK6.size; omega, by omega⟩) _ _ hA6, ?_, RowAt.nil _ _⟩
              have := row_of_owned hO6 (fun k => w.heap.size ≤ k ∧ k < w6.heap.size ∧ k ≠ w.heap.size) (fun k hk' => by have := hlow6 k hk'; omega)
              simpa using this
            have HK6 : Hid (Kept w.heap.size r w w6) := HK5.out.trans (hK6.mono (by omega))
            clear hG1 hG2 hR6 hK6 hs5 hlow hO6 hA6 hlow6 HO5 HAll5 HK5 HSZ5 HFv5 HF05 HE5 HR5
            go_wp2
            refine bodyPost_ret (v := .agg #[.int .u8 4, .int .i64 0, .string ⟨#[]⟩, .slice p3 (acc.length + 1) d3, .slice none 0 0]) (results_five Tryd.results28 rfl (HG1.out.put _ _ _ _ _)) rfl ?_
            exact val_ret HF.out HG1.out (Nat.le_refl _) HV6.out HR6.out HB.out HRW.out HK6.out
          | false =>
            cases hk2 : isHead l4 44 with
            | true =>
              obtain ⟨l5, rfl⟩ : ∃ l5, l4 = 44 :: l5 := by
                cases l4 with
                | nil => simp [isHead] at hk2
                | cons c l5 =>
                  refine ⟨l5, ?_⟩
                  have : (c.toNat : Int) = 44 := by simpa [isHead] using hk2
                  rw [show c = 44 from UInt8.toNat_inj.1 (by have h93 : (44 : UInt8).toNat = 44 := rfl; omega)]
              have HT3 : Hid (elems gm n (acc ++ [v]) l5 = R) := HT2.out
              clear HT2 hk2
              go_wp2_with (first | (go_at_call 27; (with_reducible refine (is_f r b (44 :: l5) 93 _ HR5.out hk).mono ?_); rintro e w' ⟨rfl, rfl⟩))
              refine (is_t r b (44 :: l5) 44 _ HR5.out rfl).mono ?_
              rintro e w6 ⟨rfl, hR6, hK6⟩
              have hs5 := HSZ5.out
              have hlow := HO5.out.lt
              have hO6 : w6.ownsRow (w.heap.size + 2) 27 5 (.slice p3 (acc.length + 1) d3) (acc.length + 1) (css ++ [([.int .u8 v.kind, .int .i64 v.num, .string ⟨v.text.toArray⟩, .slice p1 v.kids.length d1, .slice p2 v.names.length d2] : List Value)]).flatten := HO5.out.kept hK6.grownBy (by
                cases hov : (Value.slice p3 (acc.length + 1) d3).ownBlock with
                | none => exact .inl rfl
                | some g => right; intro e; have := (hlow g hov).1; simp at e; omega)
              have hA6 := VAll.mono (ok' := fun k => w.heap.size + 2 ≤ k ∧ k < w6.heap.size ∧ some k ≠ (Value.slice p3 (acc.length + 1) d3).ownBlock) (fun k hk' => ⟨hk'.1, by have := hK6.size; omega, hk'.2.2⟩) _ _ (VAll.same (fun k hk' => hK6.block k hk'.2.1 (by omega)) _ _ HAll5.out)
              have hcl := HCL.out
              rw [hcl] at hO6 hA6
              have hF6 := HFv5.out.kept hK6 (by omega)
              rw [hcl] at hF6
              have HA2 : Hid (ElemsAt w.heap.size r b n l.length w R gm w6) :=
                ⟨⟨acc ++ [v], l5, _, _, HT3.out, by simp at hl4; omega, by rw [← hcl]; simp at hl4; omega, hR6, hF6, hO6, hA6⟩, HF05.out.kept hK6 (by omega), HK5.out.trans (hK6.mono (by omega)), by have := hK6.size; omega, HE5.out.kept hK6 hr⟩
              clear hR6 hK6 hs5 hlow hO6 hA6 hF6 hcl HT3 HO5 HAll5 HK5 HSZ5 HFv5 HF05 HE5 HR5 hk
              go_wp2_with (first | (go_at_call 18; (with_reducible refine (need_t _).mono ?_); rintro e w' ⟨rfl, rfl⟩))
              go_roundg gm
              case measure => omega
              case rel => exact ⟨by omega, HA2.out⟩
            | false =>
              have HF : Hid (R = .err 5) := by
                have h1 := HT2.out
                cases l4 with
                | nil => exact h1.symm
                | cons c l5 =>
                  have hc : c ≠ 93 := by intro e; subst e; simp [isHead] at hk
                  have hc2 : c ≠ 44 := by intro e; subst e; simp [isHead] at hk2
                  simp only [if_neg hc, if_neg hc2] at h1
                  exact h1.symm
              clear HT2
              go_wp2_with (first | (go_at_call 27; (with_reducible refine (is_f r b l4 93 _ HR5.out hk).mono ?_); rintro e w' ⟨rfl, rfl⟩) | (go_at_call 27; (with_reducible refine (is_f r b l4 44 _ HR5.out hk2).mono ?_); rintro e w' ⟨rfl, rfl⟩) | (go_at_call 18; (with_reducible refine (need_f _).mono ?_); rintro e w' ⟨rfl, rfl⟩))
              exact ⟨rfl, ValPost.err HF.out ⟨rfl, HK5.out⟩⟩

theorem list_of (f : Nat) (hv : ∀ g, g < f → ValueOk g) : ListOk f := by
  intro r b n l w hn0 hn8 h hE hr hL hf
  cases l with
  | cons c l => exact list_hb f hv r b n (c :: l) w hn0 hn8 h hE hr hL hf (h.blt (by simp))
  | nil =>
    have h0 : Rd w r 0 [] := by
      obtain ⟨v, a1, a2, a3, p, c, rfl, h1, h2, _⟩ := h
      exact ⟨_, a1, a2, by have := NG_eq; omega, p, c, rfl, h1, h2, fun h => absurd rfl h⟩
    refine (list_hb f hv r 0 n [] w hn0 hn8 h0 hE hr hL hf (by have := hE.size; have := NG_eq; omega)).mono fun e w' hp => ?_
    obtain ⟨g, rfl⟩ : ∃ g, f = g + 1 := ⟨f - 1, by omega⟩
    have hx : list (g + 1) n [] = .err 5 := rfl
    exact ValPost.err hx (hp.get_err hx)
end Go.Proofs.YtcmlppknfbndaaaDoor
