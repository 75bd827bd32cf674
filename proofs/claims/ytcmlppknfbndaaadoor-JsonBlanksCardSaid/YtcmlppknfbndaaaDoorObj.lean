/-
  json's reader: object. Conditions: each contract's own.
-/
import Derived.Test.YtcmlppknfbndaaaDoorReg
namespace Go.Proofs.YtcmlppknfbndaaaDoor
open Go.RowKit Js

def ObjectOk (f : Nat) : Prop := ∀ (r b : Nat) (n : Int) (l : List UInt8) (w : World), 0 ≤ n → n ≤ 8 → Rd w r b l → Env w → NG ≤ r → l.length ≤ 1099511627776 → 3 * l.length + 2 < f →
  Calls Tryd.prog 29 #[.pointer (some ⟨r, 0, none⟩), .int .i64 n] w (ValPost r b w (object f n l))

/-- What the loop over an object's fields holds, of a world. -/
structure FieldsIn (B r b : Nat) (w : World) (ns : List (List UInt8)) (acc : List V) (l : List UInt8) (kv nv : Value) (css : List (List Value)) (wr : World) : Prop where
  rd : Rd wr r b l
  five : Five wr (B + 1) (.int .u8 5) (.int .i64 0) (.string ⟨#[]⟩) kv nv
  kown : wr.ownsRow (B + 2) 27 5 kv acc.length css.flatten
  nown : wr.ownsRow (B + 2) 9 1 nv ns.length (strs ns)
  all : VAll wr (fun k => B + 2 ≤ k ∧ k < wr.heap.size ∧ some k ≠ kv.ownBlock ∧ some k ≠ nv.ownBlock) acc css
  res : Five wr B (.int .u8 0) (.int .i64 0) (.string ⟨#[]⟩) (.slice none 0 0) (.slice none 0 0)
  kept : Kept B r w wr
  size : B + 2 ≤ wr.heap.size
  env : Env wr
  len : ns.length = acc.length

theorem FieldsIn.on {B r b : Nat} {w wr w' : World} {ns : List (List UInt8)} {acc : List V} {l l' : List UInt8} {kv nv : Value} {css : List (List Value)} (h : FieldsIn B r b w ns acc l kv nv css wr) (k : Kept wr.heap.size r wr w') (hr : r < B) (hg : NG ≤ r) (hR : Rd w' r b l') : FieldsIn B r b w ns acc l' kv nv css w' := by
  have hk := h.kown.lt
  have hn := h.nown.lt
  have hs := h.size
  refine ⟨hR, h.five.kept k (by omega), h.kown.kept k.grownBy ?_, h.nown.kept k.grownBy ?_, ?_, h.res.kept k (by omega), h.kept.trans (k.mono (by omega)), by have := k.size; omega, h.env.kept k hg, h.len⟩
  · cases hov : kv.ownBlock with
    | none => exact .inl rfl
    | some g => right; intro e; have := (hk g hov).1; simp at e; omega
  · cases hov : nv.ownBlock with
    | none => exact .inl rfl
    | some g => right; intro e; have := (hn g hov).1; simp at e; omega
  · exact VAll.mono (fun j hj => ⟨hj.1, by have := k.size; omega, hj.2.2⟩) _ _ (VAll.same (fun j hj => k.block j hj.2.1 (by omega)) _ _ h.all)

/-- Behind the appends, in whatever order, and the two stores. -/
theorem fields_next {B r b : Nat} {w w2 w3 : World} {ns : List (List UInt8)} {acc : List V} {l : List UInt8} {kv nv kv' nv' : Value} {css : List (List Value)} {v : V} {cs : List Value} {s : List UInt8}
    (h : FieldsIn B r b w ns acc l kv nv css w2) (hv : VAt w2 (fun k => B + 2 ≤ k ∧ k < w2.heap.size ∧ some k ≠ kv.ownBlock ∧ some k ≠ nv.ownBlock) v cs) (hr : r < B) (hb : b < B) (hrg : NG ≤ r)
    (hos : w3.os = w2.os) (htape : w3.tape = w2.tape) (hout : w3.output = w2.output) (hsize : w2.heap.size ≤ w3.heap.size) (old : ∀ k, k < w2.heap.size → some k ≠ kv.ownBlock → some k ≠ nv.ownBlock → w3.heap[k]? = w2.heap[k]?)
    (hk3 : w3.ownsRow (B + 2) 27 5 kv' (acc.length + 1) (css.flatten ++ cs)) (hn3 : w3.ownsRow (B + 2) 9 1 nv' (ns.length + 1) (strs ns ++ [strv s]))
    (hfk : ∀ k, kv'.ownBlock = some k → kv.ownBlock = some k ∨ w2.heap.size ≤ k) (hfn : ∀ k, nv'.ownBlock = some k → nv.ownBlock = some k ∨ w2.heap.size ≤ k) :
    FieldsIn B r b w (ns ++ [s]) (acc ++ [v]) l kv' nv' (css ++ [cs]) ((w3.setCell ⟨B + 1, 4, none⟩ nv').setCell ⟨B + 1, 3, none⟩ kv') := by
  have hk := h.kown.lt
  have hn := h.nown.lt
  have hs := h.size
  have hk3l := hk3.lt
  have hn3l := hn3.lt
  have low : ∀ k, k < B + 2 → some k ≠ kv.ownBlock ∧ some k ≠ nv.ownBlock := fun k hk' => ⟨fun e => by have := (hk k e.symm).1; omega, fun e => by have := (hn k e.symm).1; omega⟩
  have hset : ∀ k, k ≠ B + 1 → ((w3.setCell ⟨B + 1, 4, none⟩ nv').setCell ⟨B + 1, 3, none⟩ kv').heap[k]? = w3.heap[k]? := fun k hk' => by
    rw [Below.heap_setCell _ _ _ _ hk', Below.heap_setCell _ _ _ _ hk']
  have hssz : ((w3.setCell ⟨B + 1, 4, none⟩ nv').setCell ⟨B + 1, 3, none⟩ kv').heap.size = w3.heap.size := by simp [World.setCell]
  have lowk : ∀ k, k < B + 2 → k ≠ B + 1 → ((w3.setCell ⟨B + 1, 4, none⟩ nv').setCell ⟨B + 1, 3, none⟩ kv').heap[k]? = w2.heap[k]? := fun k hk' hne => by
    rw [hset k hne]; exact old k (by omega) (low k hk').1 (low k hk').2
  have hF3 : Five w3 (B + 1) (.int .u8 5) (.int .i64 0) (.string ⟨#[]⟩) kv nv := h.five.same (old _ h.five.lt (low _ (by omega)).1 (low _ (by omega)).2)
  refine ⟨h.rd.same (lowk r (by omega) (by omega)) (fun _ => lowk b (by omega) (by omega)), ?_, ?_, ?_, ?_, h.res.same (lowk _ (by omega) (by omega)), ?_, by omega, h.env.same fun k hk' => lowk k (by omega) (by omega), by simp [h.len]⟩
  · unfold Five at hF3 ⊢
    simp only [World.setCell, Array.getElem?_modify, if_true, hF3, Option.map_some]
    simp
  · have := ownsRow_setCell_below (ownsRow_setCell_below hk3 (a := ⟨B + 1, 4, none⟩) (by simp) nv') (a := ⟨B + 1, 3, none⟩) (by simp) kv'
    simpa using this
  · have := ownsRow_setCell_below (ownsRow_setCell_below hn3 (a := ⟨B + 1, 4, none⟩) (by simp) nv') (a := ⟨B + 1, 3, none⟩) (by simp) kv'
    simpa [strs] using this
  · refine VAll.mono (ok := fun k => B + 2 ≤ k ∧ k < w2.heap.size ∧ some k ≠ kv.ownBlock ∧ some k ≠ nv.ownBlock) (fun k hk' => ?_) _ _ (VAll.same (w := w2) (fun k hk' => ?_) _ _ (VAll.snoc hv h.all))
    · refine ⟨hk'.1, by omega, fun e => ?_, fun e => ?_⟩
      · rcases hfk k e.symm with h1 | h1
        · exact hk'.2.2.1 h1.symm
        · omega
      · rcases hfn k e.symm with h1 | h1
        · exact hk'.2.2.2 h1.symm
        · omega
    · rw [hset k (by omega)]; exact old k hk'.2.1 hk'.2.2.1 hk'.2.2.2
  · exact h.kept.trans ⟨hos, htape, hout, by omega, fun k hk' _ => lowk k (by omega) (by omega)⟩
theorem FieldsIn.shape {B r b : Nat} {w wr : World} {ns : List (List UInt8)} {acc : List V} {l : List UInt8} {kv nv : Value} {css : List (List Value)} (h : FieldsIn B r b w ns acc l kv nv css wr) :
    ∃ p c q d, kv = .slice p acc.length c ∧ nv = .slice q ns.length d := by
  obtain ⟨p, c, h1, _⟩ := row_of_owned h.kown (fun _ => True) (fun _ _ => trivial)
  obtain ⟨q, d, h2, _⟩ := row_of_owned h.nown (fun _ => True) (fun _ _ => trivial)
  exact ⟨p, c, q, d, h1, h2⟩
theorem FieldsIn.value {B r b : Nat} {w wr : World} {ns : List (List UInt8)} {acc : List V} {l : List UInt8} {kv nv : Value} {css : List (List Value)} (h : FieldsIn B r b w ns acc l kv nv css wr) :
    VAt wr (fun k => B ≤ k ∧ k < wr.heap.size ∧ k ≠ B) (.mk 5 0 [] acc ns) [.int .u8 5, .int .i64 0, .string ⟨#[]⟩, kv, nv] := by
  have hk := h.kown.lt
  have hn := h.nown.lt
  exact ⟨kv, nv, css, rfl, VAll.mono (fun k hk' => by omega) _ _ h.all, row_of_owned h.kown _ (fun k hk' => by have := hk k hk'; omega), row_of_owned h.nown _ (fun k hk' => by have := hn k hk'; omega)⟩

def ObjAt (B r b : Nat) (n : Int) (L : Nat) (w : World) (R : Res V) (g : Nat) (wr : World) : Prop :=
  ∃ ns acc l kv nv css, fields g n ns acc l = R ∧ 3 * l.length + 1 < g ∧ acc.length + l.length ≤ L ∧ FieldsIn B r b w ns acc l kv nv css wr
theorem head_of {l : List UInt8} {k : Int} (h : isHead l k = true) (c : UInt8) (hc : (c.toNat : Int) = k) : ∃ r, l = c :: r := by
  cases l with
  | nil => simp [isHead] at h
  | cons d r =>
    refine ⟨r, ?_⟩
    have : (d.toNat : Int) = k := by simpa [isHead] using h
    rw [show d = c from UInt8.toNat_inj.1 (by omega)]
theorem not_head {c : UInt8} {l : List UInt8} {k : Int} (h : isHead (c :: l) k = false) (d : UInt8) (hd : (d.toNat : Int) = k) : c ≠ d := by
  rintro rfl
  simp [isHead, hd] at h

/-- Behind the append of the name, from a world that has a block or two more. -/
structure MidAt (B : Nat) (wa wp w8 : World) (kv nv nv' : Value) (n k : Nat) (xs ys : List Value) : Prop where
  os : w8.os = wa.os
  tape : w8.tape = wa.tape
  output : w8.output = wa.output
  size : wa.heap.size ≤ w8.heap.size
  psize : wp.heap.size ≤ w8.heap.size
  old : ∀ k, k < wa.heap.size → some k ≠ nv.ownBlock → w8.heap[k]? = wa.heap[k]?
  new : ∀ k, wa.heap.size ≤ k → k < wp.heap.size → w8.heap[k]? = wp.heap[k]?
  kown : w8.ownsRow (B + 2) 27 5 kv k xs
  nown : w8.ownsRow (B + 2) 9 1 nv' n ys
  fresh : ∀ j, nv'.ownBlock = some j → nv.ownBlock = some j ∨ wa.heap.size ≤ j
theorem other_type {w : World} {B : Nat} {e e' : TypeId} {size size' : Nat} {v v' : Value} {n n' : Nat} {xs xs' : List Value} (h : w.ownsRow B e size v n xs) (h' : w.ownsRow B e' size' v' n' xs') (hne : e ≠ e') : v.ownBlock = none ∨ v.ownBlock ≠ v'.ownBlock := by
  rcases h.2 with ⟨rfl, _⟩ | ⟨g, cap, cur, rfl, _, hg, _⟩
  · exact .inl rfl
  · right
    intro e1
    rcases h'.2 with ⟨rfl, _⟩ | ⟨g', cap', cur', rfl, _, hg', _⟩
    · cases e1
    · simp only [Value.ownBlock, Option.some.injEq] at e1
      subst e1
      rw [hg] at hg'
      simp at hg'
      exact hne hg'.2
theorem mid_of {B : Nat} {wa wp w8 : World} {kv nv nv' : Value} {n k : Nat} {xs ys zs : List Value} {m : Nat} (hk : wa.ownsRow (B + 2) 27 5 kv k xs) (hn : wa.ownsRow (B + 2) 9 1 nv m zs)
    (hp : wa.grownBy wp none) (hg : wp.grownBy w8 nv.ownBlock) (hn8 : w8.ownsRow (B + 2) 9 1 nv' n ys) (hf : Fresh wp nv nv') : MidAt B wa wp w8 kv nv nv' n k xs ys := by
  have hnl := hn.lt
  refine ⟨hg.os.trans hp.os, hg.tape.trans hp.tape, hg.output.trans hp.output, Nat.le_trans hp.size hg.size, hg.size, fun j hj hne => ?_, fun j hj hj2 => ?_, ?_, hn8, fun j hj => ?_⟩
  · rw [hg.block j (Nat.lt_of_lt_of_le hj hp.size) hne, hp.block j hj (by simp)]
  · exact hg.block j hj2 (fun e => by have := (hnl j e.symm).2; omega)
  · exact (hk.kept hp (by cases kv.ownBlock <;> simp)).kept hg (other_type hk hn (by decide))
  · rcases hf with h | ⟨i, h, hi⟩
    · left; rw [← h]; exact hj
    · right
      rw [h] at hj
      simp at hj
      have := hp.size
      omega
theorem MidAt.cell {B : Nat} {wa wp w8 : World} {kv nv nv' : Value} {n k : Nat} {xs ys : List Value} (h : MidAt B wa wp w8 kv nv nv' n k xs ys) {g o : Nat} {u : Value} (hc : wa.cell? ⟨g, o, none⟩ = some u) (hne : some g ≠ nv.ownBlock) : w8.cell? ⟨g, o, none⟩ = some u := by
  rw [World.cell?_of_block (w := wa) (a := ⟨g, o, none⟩) (h.old g (cell_lt hc) hne)]; exact hc
theorem grown_alloc1 (w : World) (o : Obj) : w.grownBy ((w.alloc o).drew) none := ⟨rfl, rfl, rfl, by simp, fun k hk _ => Below.heap_alloc _ _ _ hk⟩
theorem grown_alloc2 (w : World) (o o' : Obj) : w.grownBy (((w.alloc o).alloc o').drew) none := ⟨rfl, rfl, rfl, by simp; omega, fun k hk _ => by
  show ((w.alloc o).alloc o').heap[k]? = _
  rw [Below.heap_alloc _ _ _ (by simp; omega), Below.heap_alloc _ _ _ hk]⟩

theorem names_new1 (w : World) (s : ByteArray) (t : TypeId) : ∀ (j : Nat) u, [Value.string s][j]? = some u → ((w.alloc (.cells #[.string s] t)).drew).cell? ((⟨w.heap.size, 0, none⟩ : Addr).add j) = some u := new_cells w #[.string s] t
theorem names_new2 (w : World) (s : ByteArray) (t : TypeId) (o : Obj) : ∀ (j : Nat) u, [Value.string s][j]? = some u → (((w.alloc (.cells #[.string s] t)).alloc o).drew).cell? ((⟨w.heap.size, 0, none⟩ : Addr).add j) = some u := fun j u hj => by
  have h := new_cells w #[.string s] t j u hj
  have hb : ((⟨w.heap.size, 0, none⟩ : Addr).add j).block = w.heap.size := by unfold Addr.add; split <;> rfl
  show ((w.alloc (.cells #[.string s] t)).alloc o).cell? _ = _
  rw [World.cell?_alloc_lt _ _ _ (by rw [hb]; simp)]
  exact h
theorem names_new3 (w : World) (s : ByteArray) (t : TypeId) (o : Obj) : ∀ (j : Nat) u, [Value.string s][j]? = some u → (((w.alloc o).alloc (.cells #[.string s] t)).drew).cell? ((⟨w.heap.size + 1, 0, none⟩ : Addr).add j) = some u := fun j u hj => by
  have h := new_cells (w.alloc o) #[.string s] t j u hj
  rw [show (w.alloc o).heap.size = w.heap.size + 1 by simp] at h
  exact h
theorem add_block (b o j : Nat) : ((⟨b, o, none⟩ : Addr).add j).block = b := by unfold Addr.add; split <;> rfl
theorem MidAt.news2 {B : Nat} {wa w8 : World} {kv nv nv' : Value} {n k : Nat} {xs ys : List Value} {o : Obj} {arr : Array Value} {t : TypeId} (h : MidAt B wa (((wa.alloc o).alloc (.cells arr t)).drew) w8 kv nv nv' n k xs ys) :
    ∀ j u, arr.toList[j]? = some u → w8.cell? ((⟨wa.heap.size + 1, 0, none⟩ : Addr).add j) = some u := fun j u hj => by
  have h1 := new_cells (wa.alloc o) arr t j u hj
  rw [show (wa.alloc o).heap.size = wa.heap.size + 1 by simp] at h1
  rw [World.cell?_of_block (w := (wa.alloc o).alloc (.cells arr t)) (by rw [add_block]; exact h.new _ (by omega) (by show _ < ((wa.alloc o).alloc (.cells arr t)).heap.size; simp))]
  exact h1
theorem MidAt.news3 {B : Nat} {wa w8 : World} {kv nv nv' : Value} {n k : Nat} {xs ys : List Value} {o : Obj} {arr : Array Value} {t : TypeId} (h : MidAt B wa (((wa.alloc (.cells arr t)).alloc o).drew) w8 kv nv nv' n k xs ys) :
    ∀ j u, arr.toList[j]? = some u → w8.cell? ((⟨wa.heap.size, 0, none⟩ : Addr).add j) = some u := fun j u hj => by
  have h1 := new_cells wa arr t j u hj
  rw [World.cell?_of_block (w := (wa.alloc (.cells arr t)).alloc o) (by rw [add_block]; exact h.new _ (by omega) (by show _ < ((wa.alloc (.cells arr t)).alloc o).heap.size; simp; omega))]
  rw [World.cell?_alloc_lt _ _ _ (by rw [add_block]; simp)]
  exact h1
theorem grown_none (w : World) : w.grownBy w none := ⟨rfl, rfl, rfl, Nat.le_refl _, fun _ _ _ => rfl⟩
theorem grown_one (w : World) (o : Obj) : w.grownBy (w.alloc o) none := ⟨rfl, rfl, rfl, by simp, fun k hk _ => Below.heap_alloc _ _ _ hk⟩

/-- Behind both appends. -/
structure EndAt (B : Nat) (wa w9 : World) (kv nv kv' nv' : Value) (n k : Nat) (xs ys : List Value) : Prop where
  os : w9.os = wa.os
  tape : w9.tape = wa.tape
  output : w9.output = wa.output
  size : wa.heap.size ≤ w9.heap.size
  old : ∀ k, k < wa.heap.size → some k ≠ kv.ownBlock → some k ≠ nv.ownBlock → w9.heap[k]? = wa.heap[k]?
  kown : w9.ownsRow (B + 2) 27 5 kv' k xs
  nown : w9.ownsRow (B + 2) 9 1 nv' n ys
  kfresh : ∀ j, kv'.ownBlock = some j → kv.ownBlock = some j ∨ wa.heap.size ≤ j
  nfresh : ∀ j, nv'.ownBlock = some j → nv.ownBlock = some j ∨ wa.heap.size ≤ j
theorem end_of {B : Nat} {wa wp w8 wq w9 : World} {kv nv kv' nv' : Value} {n k m : Nat} {xs ys xs' zs : List Value} (hk : wa.ownsRow (B + 2) 27 5 kv m zs) (h : MidAt B wa wp w8 kv nv nv' n k xs ys)
    (hp : w8.grownBy wq none) (hg : wq.grownBy w9 kv.ownBlock) (hk9 : w9.ownsRow (B + 2) 27 5 kv' (k + 1) xs') (hf : Fresh wq kv kv') : EndAt B wa w9 kv nv kv' nv' n (k + 1) xs' ys := by
  have hkl := hk.lt
  have old8 : ∀ j, j < w8.heap.size → some j ≠ kv.ownBlock → w9.heap[j]? = w8.heap[j]? := fun j hj hne => by
    rw [hg.block j (Nat.lt_of_lt_of_le hj hp.size) hne, hp.block j hj (by simp)]
  refine ⟨(hg.os.trans hp.os).trans h.os, (hg.tape.trans hp.tape).trans h.tape, (hg.output.trans hp.output).trans h.output, Nat.le_trans (Nat.le_trans h.size hp.size) hg.size, fun j hj h1 h2 => ?_, hk9, ?_, fun j hj => ?_, h.fresh⟩
  · rw [old8 j (Nat.lt_of_lt_of_le hj h.size) h1]; exact h.old j hj h2
  · exact (h.nown.kept hp (by cases nv'.ownBlock <;> simp)).kept hg (other_type h.nown h.kown (by decide))
  · rcases hf with e | ⟨i, e, hi⟩
    · left; rw [← e]; exact hj
    · right
      rw [e] at hj
      simp at hj
      have := hp.size
      have := h.size
      omega
theorem EndAt.cell {B : Nat} {wa w9 : World} {kv nv kv' nv' : Value} {n k : Nat} {xs ys : List Value} (h : EndAt B wa w9 kv nv kv' nv' n k xs ys) {g o : Nat} {u : Value} (hc : wa.cell? ⟨g, o, none⟩ = some u) (h1 : some g ≠ kv.ownBlock) (h2 : some g ≠ nv.ownBlock) : w9.cell? ⟨g, o, none⟩ = some u := by
  rw [World.cell?_of_block (w := wa) (a := ⟨g, o, none⟩) (h.old g (cell_lt hc) h1 h2)]; exact hc
theorem EndAt.free {B : Nat} {wa w9 : World} {kv nv kv' nv' : Value} {n k : Nat} {xs ys : List Value} (h : EndAt B wa w9 kv nv kv' nv' n k xs ys) {g o : Nat} {u : Value} (hc : wa.cell? ⟨g, o, none⟩ = some u) (hfz : wa.frozen? ⟨g, o, none⟩ = false) (h1 : some g ≠ kv.ownBlock) (h2 : some g ≠ nv.ownBlock) : w9.frozen? ⟨g, o, none⟩ = false := by
  rw [World.frozen?_of_block (w := wa) (a := ⟨g, o, none⟩) (h.old g (cell_lt hc) h1 h2)]; exact hfz

/-- What the two appends leave. -/
def ObjNext (B r b : Nat) (w : World) (ns : List (List UInt8)) (acc : List V) (l : List UInt8) (css : List (List Value)) (wx : World) : Prop := ∃ kv nv, FieldsIn B r b w ns acc l kv nv css wx

set_option maxHeartbeats 8000000 in
set_option maxRecDepth 100000 in
theorem object_hb (f : Nat) (hv : ∀ g, g < f → ValueOk g) (r b : Nat) (n : Int) (l : List UInt8) (w : World) (hn0 : 0 ≤ n) (hn8 : n ≤ 8) (h : Rd w r b l) (hE : Env w) (hr : NG ≤ r) (hL : l.length ≤ 1099511627776) (hf : 3 * l.length + 2 < f) (hb : b < w.heap.size) :
    Calls Tryd.prog 29 #[.pointer (some ⟨r, 0, none⟩), .int .i64 n] w (ValPost r b w (object f n l)) := by
  obtain ⟨R, hR⟩ : ∃ R, object f n l = R := ⟨_, rfl⟩
  rw [hR]
  obtain ⟨f, rfl⟩ : ∃ g, f = g + 1 := ⟨f - 1, by omega⟩
  unfold object at hR
  have hrw := h.lt
  have HRW := Lib.hid hrw
  have HV := Lib.hid hv
  have HB := Lib.hid hb
  have hB2 : Below w.heap.size w ((w.alloc (Obj.cells #[Value.int IntKind.u8 0, Value.int IntKind.i64 0, Value.string { data := #[] }, Value.slice none 0 0, Value.slice none 0 0] 27)).alloc (Obj.cells #[Value.int IntKind.u8 5, Value.int IntKind.i64 0, Value.string { data := #[] }, Value.slice none 0 0, Value.slice none 0 0] 27)) := ((Below.refl _ _).alloc (Nat.le_refl _) _).alloc (by simp) _
  have hF1 : Five ((w.alloc (Obj.cells #[Value.int IntKind.u8 0, Value.int IntKind.i64 0, Value.string { data := #[] }, Value.slice none 0 0, Value.slice none 0 0] 27)).alloc (Obj.cells #[Value.int IntKind.u8 5, Value.int IntKind.i64 0, Value.string { data := #[] }, Value.slice none 0 0, Value.slice none 0 0] 27)) w.heap.size (.int .u8 0) (.int .i64 0) (.string ⟨#[]⟩) (.slice none 0 0) (.slice none 0 0) := by
    unfold Five; rw [Below.heap_alloc _ _ _ (by simp)]; exact heap_alloc_new w _
  have hF2 : Five ((w.alloc (Obj.cells #[Value.int IntKind.u8 0, Value.int IntKind.i64 0, Value.string { data := #[] }, Value.slice none 0 0, Value.slice none 0 0] 27)).alloc (Obj.cells #[Value.int IntKind.u8 5, Value.int IntKind.i64 0, Value.string { data := #[] }, Value.slice none 0 0, Value.slice none 0 0] 27)) (w.heap.size + 1) (.int .u8 5) (.int .i64 0) (.string ⟨#[]⟩) (.slice none 0 0) (.slice none 0 0) := by
    unfold Five
    have := heap_alloc_new (w.alloc (Obj.cells #[Value.int IntKind.u8 0, Value.int IntKind.i64 0, Value.string { data := #[] }, Value.slice none 0 0, Value.slice none 0 0] 27)) (Obj.cells #[Value.int IntKind.u8 5, Value.int IntKind.i64 0, Value.string { data := #[] }, Value.slice none 0 0, Value.slice none 0 0] 27)
    simpa using this
  have hsz2 : (((w.alloc (Obj.cells #[Value.int IntKind.u8 0, Value.int IntKind.i64 0, Value.string { data := #[] }, Value.slice none 0 0, Value.slice none 0 0] 27)).alloc (Obj.cells #[Value.int IntKind.u8 5, Value.int IntKind.i64 0, Value.string { data := #[] }, Value.slice none 0 0, Value.slice none 0 0] 27))).heap.size = w.heap.size + 2 := by simp
  have hI0 : FieldsIn w.heap.size r b w [] [] l (.slice none 0 0) (.slice none 0 0) [] ((w.alloc (Obj.cells #[Value.int IntKind.u8 0, Value.int IntKind.i64 0, Value.string { data := #[] }, Value.slice none 0 0, Value.slice none 0 0] 27)).alloc (Obj.cells #[Value.int IntKind.u8 5, Value.int IntKind.i64 0, Value.string { data := #[] }, Value.slice none 0 0, Value.slice none 0 0] 27)) :=
    ⟨h.below hB2, hF2, World.ownsRow_nil _ _ _ _, World.ownsRow_nil _ _ _ _, rfl, hF1, Kept.of_below hB2, by rw [hsz2]; exact Nat.le_refl _, hE.below hB2 hE.size, rfl⟩
  have HI0 := Lib.hid hI0
  have HR := Lib.hid hR
  clear hR h hE hF1 hF2 hB2 hsz2 hv hb hI0
  go_enter Tryd.func29, Tryd.ntmps29
  go_wp2_with fail
  generalize ((w.alloc (Obj.cells #[Value.int IntKind.u8 0, Value.int IntKind.i64 0, Value.string { data := #[] }, Value.slice none 0 0, Value.slice none 0 0] 27)).alloc (Obj.cells #[Value.int IntKind.u8 5, Value.int IntKind.i64 0, Value.string { data := #[] }, Value.slice none 0 0, Value.slice none 0 0] 27)) = w0 at *
  refine (blanks_any r b l w0 HI0.out.rd).mono ?_
  rintro e w1 ⟨rfl, hR1, hK1⟩
  have HI1 := Lib.hid (HI0.out.on hK1 hrw hr hR1)
  have hle := blanks_le l
  have HRL : Hid ((match blanks l with | [] => .err 5 | c :: r => if c = 125 then .ok (.mk 5 0 [] [] []) r else fields f n [] [] (c :: r)) = R) := HR.out
  clear HR HI0 hR1 hK1
  generalize blanks l = m at *
  cases hk : isHead m 125 with
  | true =>
    obtain ⟨l1, rfl⟩ := head_of hk 125 rfl
    have HF : Hid (R = .ok (.mk 5 0 [] [] []) l1) := HRL.out.symm
    clear HRL hk
    go_wp2_with fail
    refine (is_t r b (125 :: l1) 125 w1 HI1.out.rd rfl).mono ?_
    rintro e w2 ⟨rfl, hR2, hK2⟩
    have hI2 := HI1.out.on hK2 hrw hr hR2
    obtain ⟨a0, a1, a2, a3, a4⟩ := hI2.res.cells
    obtain ⟨b0, b1, b2, b3, b4⟩ := hI2.five.cells
    obtain ⟨c0, c1, c2, c3, c4⟩ := hI2.res.free
    have HI2 := Lib.hid hI2
    clear hI2 hR2 hK2
    go_wp2
    refine bodyPost_ret (v := .agg #[.int .u8 5, .int .i64 0, .string ⟨#[]⟩, .slice none 0 0, .slice none 0 0]) (results_five Tryd.results29 rfl (HI2.out.res.put _ _ _ _ _)) rfl ?_
    exact val_ret HF.out HI2.out.res (Nat.le_refl _) HI2.out.value HI2.out.rd HB.out HRW.out HI2.out.kept
  | false =>
    have HE3 : Hid (fields f n [] [] m = R) := by
      have h1 := HRL.out
      cases m with
      | nil =>
        rw [← h1]
        obtain ⟨g, rfl⟩ : ∃ g, f = g + 1 := ⟨f - 1, by omega⟩
        rfl
      | cons c l1 =>
        simp only [if_neg (not_head hk 125 rfl)] at h1
        exact Lib.hid h1
    have HA : Hid (ObjAt w.heap.size r b n l.length w R f w1) := ⟨[], [], m, .slice none 0 0, .slice none 0 0, [], HE3.out, by omega, by simp; omega, HI1.out⟩
    clear HRL HE3
    go_wp2_with (first | (go_at_call 27; (with_reducible refine (is_f r b m 125 _ HI1.out.rd hk).mono ?_); rintro e w' ⟨rfl, rfl⟩))
    clear HI1 hk
    go_loopg [6, 7] f (fun g _ _ wr => g ≤ f ∧ ObjAt w.heap.size r b n l.length w R g wr)
    case atStart => exact ⟨Nat.le_refl _, HA.out⟩
    case round =>
      obtain ⟨hgf, ns, acc, l2, kv, nv, css, ht, hlen, hbd, hI⟩ := hrel
      obtain ⟨gm, rfl⟩ : ∃ gm, gk = gm + 1 := ⟨gk - 1, by omega⟩
      unfold fields at ht
      have HT := Lib.hid ht
      have HI := Lib.hid hI
      clear ht hI HA
      go_wp2_with fail
      refine (blanks_any r b l2 wr HI.out.rd).mono ?_
      rintro e w2 ⟨rfl, hR2, hK2⟩
      have HI2 := Lib.hid (HI.out.on hK2 hrw hr hR2)
      have hl2 := blanks_le l2
      clear HI hR2 hK2
      generalize blanks l2 = l3 at *
      go_wp2_with fail
      refine (text_any r b l3 w2 HI2.out.rd HI2.out.env hr (by omega)).mono ?_
      intro e w3 hp
      cases hx : text l3 with
      | err cc =>
        obtain ⟨rfl, hk⟩ := hp.get_err hx
        have HF : Hid (R = .err cc) := by have := HT.out; rw [hx] at this; exact this.symm
        have HKF : Hid (Kept w.heap.size r w w3) := HI2.out.kept.trans (hk.mono (by have := HI2.out.size; omega))
        clear hx hp hk HT
        exact ⟨rfl, ValPost.err HF.out ⟨rfl, HKF.out⟩⟩
      | ok s l4 =>
        obtain ⟨rfl, hR3, hk⟩ := hp.get_ok hx
        have hl4 := text_len hx
        have HT2 := HT.out
        rw [hx] at HT2
        have HI3 := Lib.hid (HI2.out.on hk hrw hr hR3)
        clear HT hx hp hk hR3 HI2
        unfold strv
        have hrow := row_of_owned HI3.out.nown (fun _ => True) (fun _ _ => trivial)
        have HROW := Lib.hid hrow
        obtain ⟨p1, d1, p2, d2, rfl, rfl⟩ := HI3.out.shape
        obtain ⟨a0, a1, a2, a3, a4⟩ := HI3.out.five.cells
        cases hct : ns.contains s with
        | true =>
          have HF : Hid (R = .err 5) := by
            have h2 : (if ns.contains s = true then Res.err 5 else _) = R := HT2
            rw [if_pos hct] at h2
            exact h2.symm
          have HCT := Lib.hid hct
          clear HT2 hrow hct
          go_wp2_with (first | (go_at_call 43; refine (contains_any HROW.out s true HCT.out).mono ?_; rintro e w' ⟨rfl, rfl⟩) | (go_at_call 18; (with_reducible refine (need_f _).mono ?_); rintro e w' ⟨rfl, rfl⟩))
          exact ⟨rfl, ValPost.err HF.out ⟨rfl, HI3.out.kept⟩⟩
        | false =>
          have h2 : (if ns.contains s = true then Res.err 5 else _) = R := HT2
          rw [if_neg (by rw [hct]; simp)] at h2
          have HT3 : Hid ((match blanks l4 with
              | [] => .err 5
              | c :: r => if c = 58 then
                  (match value gm n r with
                  | .err e => .err e
                  | .ok k l2 => match blanks l2 with
                    | [] => .err 5
                    | d :: r2 => if d = 125 then .ok (.mk 5 0 [] (acc ++ [k]) (ns ++ [s])) r2 else if d = 44 then fields gm n (ns ++ [s]) (acc ++ [k]) r2 else .err 5)
                else .err 5) = R) := h2
          have HCT := Lib.hid hct
          clear HT2 h2 hrow hct
          go_wp2_with (first | (go_at_call 43; refine (contains_any HROW.out s false HCT.out).mono ?_; rintro e w' ⟨rfl, rfl⟩) | (go_at_call 18; (with_reducible refine (need_t _).mono ?_); rintro e w' ⟨rfl, rfl⟩))
          clear a0 a1 a2 a3 a4 HROW HCT
          refine (blanks_any r b l4 _ HI3.out.rd).mono ?_
          rintro e w4 ⟨rfl, hR4, hK4⟩
          have HI4 := Lib.hid (HI3.out.on hK4 hrw hr hR4)
          have hl5 := blanks_le l4
          clear HI3 hR4 hK4
          generalize blanks l4 = l5 at *
          cases hk : isHead l5 58 with
          | false =>
            have HF : Hid (R = .err 5) := by
              have h1 := HT3.out
              cases l5 with
              | nil => exact h1.symm
              | cons c l6 =>
                simp only [if_neg (not_head hk 58 rfl)] at h1
                exact h1.symm
            clear HT3
            go_wp2_with (first | (go_at_call 27; (with_reducible refine (is_f r b l5 58 _ HI4.out.rd hk).mono ?_); rintro e w' ⟨rfl, rfl⟩) | (go_at_call 18; (with_reducible refine (need_f _).mono ?_); rintro e w' ⟨rfl, rfl⟩))
            exact ⟨rfl, ValPost.err HF.out ⟨rfl, HI4.out.kept⟩⟩
          | true =>
            obtain ⟨l6, rfl⟩ := head_of hk 58 rfl
            have HT4 : Hid ((match value gm n l6 with
                | .err e => .err e
                | .ok k l2 => match blanks l2 with
                  | [] => .err 5
                  | d :: r2 => if d = 125 then .ok (.mk 5 0 [] (acc ++ [k]) (ns ++ [s])) r2 else if d = 44 then fields gm n (ns ++ [s]) (acc ++ [k]) r2 else .err 5) = R) := HT3.out
            clear HT3 hk
            go_wp2_with fail
            refine (is_t r b (58 :: l6) 58 _ HI4.out.rd rfl).mono ?_
            rintro e w5 ⟨rfl, hR5, hK5⟩
            have HI5 := Lib.hid (HI4.out.on hK5 hrw hr hR5)
            simp only [List.length_cons] at hl5
            clear HI4 hR5 hK5
            go_wp2_with (first | (go_at_call 18; (with_reducible refine (need_t _).mono ?_); rintro e w' ⟨rfl, rfl⟩))
            refine (HV.out gm (by omega) r b n l6 _ hn0 hn8 HI5.out.rd HI5.out.env hr (by omega) (by omega)).mono ?_
            intro e w6 hp
            cases hx : value gm n l6 with
            | err cc =>
              obtain ⟨rfl, hk⟩ := hp.get_err hx
              have HF : Hid (R = .err cc) := by have := HT4.out; rw [hx] at this; exact this.symm
              have HKF : Hid (Kept w.heap.size r w w6) := HI5.out.kept.trans (hk.mono (by have := HI5.out.size; omega))
              clear hx hp hk HT4
              exact ⟨rfl, ValPost.err HF.out ⟨rfl, HKF.out⟩⟩
            | ok v l7 =>
              obtain ⟨cs, rfl, hV, hR6, hk⟩ := hp.get_ok hx
              have hl7 := (lens gm).value _ _ _ _ hx
              have HT5 : Hid ((match blanks l7 with
                  | [] => .err 5
                  | d :: r2 => if d = 125 then .ok (.mk 5 0 [] (acc ++ [v]) (ns ++ [s])) r2 else if d = 44 then fields gm n (ns ++ [s]) (acc ++ [v]) r2 else .err 5) = R) := by have := HT4.out; rw [hx] at this; exact this
              have hI5 := HI5.out
              have hkl := hI5.kown.lt
              have hnl := hI5.nown.lt
              have hs5 := hI5.size
              have HV6 := Lib.hid (VAt.mono (ok' := fun k => w.heap.size + 2 ≤ k ∧ k < w6.heap.size ∧ some k ≠ (Value.slice p1 acc.length d1).ownBlock ∧ some k ≠ (Value.slice p2 ns.length d2).ownBlock) (fun k hk' => ⟨by omega, hk'.2, fun e => by have := (hkl k e.symm).2; omega, fun e => by have := (hnl k e.symm).2; omega⟩) _ _ hV)
              have HI6 := Lib.hid (hI5.on hk hrw hr hR6)
              have HONE := Lib.hid hV.one
              obtain ⟨p3, d3, p4, d4, hcs, _, _, _, _⟩ := hV.shape
              clear HT4 hx hp hk hV hR6 hI5 hkl hnl hs5 HI5
              simp only [strv] at hcs
              subst hcs
              have hz6 : w.heap.size + 1 < w6.heap.size := by have := HI6.out.size; omega
              go_wp2_with fail
              have hIa : FieldsIn w.heap.size r b w ns acc l7 (.slice p1 acc.length d1) (.slice p2 ns.length d2) css (w6.alloc (Obj.cells #[.int .u8 v.kind, .int .i64 v.num, .string ⟨v.text.toArray⟩, .slice p3 v.kids.length d3, .slice p4 v.names.length d4] 27)) :=
                HI6.out.on ((Kept.refl _ _ _).alloc (Nat.le_refl _) _) hrw hr (HI6.out.rd.alloc _)
              have hVa := VAt.mono (ok' := fun k => w.heap.size + 2 ≤ k ∧ k < (w6.alloc (Obj.cells #[.int .u8 v.kind, .int .i64 v.num, .string ⟨v.text.toArray⟩, .slice p3 v.kids.length d3, .slice p4 v.names.length d4] 27)).heap.size ∧ some k ≠ (Value.slice p1 acc.length d1).ownBlock ∧ some k ≠ (Value.slice p2 ns.length d2).ownBlock) (fun k hk' => ⟨hk'.1, by simp; omega, hk'.2.2⟩) _ _ (VAt.same (w' := w6.alloc (Obj.cells #[.int .u8 v.kind, .int .i64 v.num, .string ⟨v.text.toArray⟩, .slice p3 v.kids.length d3, .slice p4 v.names.length d4] 27)) (fun k hk' => Below.heap_alloc _ _ _ hk'.2.1) _ _ HV6.out)
              have hkc := new_cells w6 #[.int .u8 v.kind, .int .i64 v.num, .string ⟨v.text.toArray⟩, .slice p3 v.kids.length d3, .slice p4 v.names.length d4] 27
              generalize w6.alloc (Obj.cells #[.int .u8 v.kind, .int .i64 v.num, .string ⟨v.text.toArray⟩, .slice p3 v.kids.length d3, .slice p4 v.names.length d4] 27) = wa at *
              have k0 : wa.cell? ⟨w6.heap.size, 0, none⟩ = some (.int .u8 v.kind) := hkc 0 _ rfl
              have k1 : wa.cell? ⟨w6.heap.size, 1, none⟩ = some (.int .i64 v.num) := hkc 1 _ rfl
              have k2 : wa.cell? ⟨w6.heap.size, 2, none⟩ = some (.string ⟨v.text.toArray⟩) := hkc 2 _ rfl
              have k3 : wa.cell? ⟨w6.heap.size, 3, none⟩ = some (.slice p3 v.kids.length d3) := hkc 3 _ rfl
              have k4 : wa.cell? ⟨w6.heap.size, 4, none⟩ = some (.slice p4 v.names.length d4) := hkc 4 _ rfl
              obtain ⟨a0, a1, a2, a3, a4⟩ := hIa.five.cells
              have HIa := Lib.hid hIa
              have HVa := Lib.hid hVa
              obtain ⟨i0, hi, hz0, hz1, hz2⟩ := info_parts infoV
              obtain ⟨j0, hj, hy0, hy1, hy2⟩ := info_parts infoS
              have HNK0 : Hid (some w6.heap.size ≠ (Value.slice p2 ns.length d2).ownBlock) := fun e => by have := (HI6.out.nown.lt _ e.symm).2; omega
              have HKK0 : Hid (some w6.heap.size ≠ (Value.slice p1 acc.length d1).ownBlock) := fun e => by have := (HI6.out.kown.lt _ e.symm).2; omega
              have HFAR0 : Hid (w.heap.size + 1 ≠ w6.heap.size) := Lib.hid (by omega)
              clear hIa hVa hkc HI6 HV6 hz6 a0 a1 a2
              go_cut [] (fun wx => ObjNext w.heap.size r b w (ns ++ [s]) (acc ++ [v]) l7 (css ++ [([.int .u8 v.kind, .int .i64 v.num, .string ⟨v.text.toArray⟩, .slice p3 v.kids.length d3, .slice p4 v.names.length d4] : List Value)]) wx)
              case first =>
                clear HT5 HV hle hl2 hl4 hl5 hl7
                have HNR := Lib.hid HIa.out.nown
                have HKR := Lib.hid HIa.out.kown
                have hnlt := HIa.out.nown.lt
                have hsza := HIa.out.size
                have hlen := HIa.out.len
                have hneB : some (w.heap.size + 1) ≠ (Value.slice p2 ns.length d2).ownBlock := fun e => by have := (hnlt _ e.symm).1; omega
                have HNB := Lib.hid hneB
                have HNK : Hid (some w6.heap.size ≠ (Value.slice p2 ns.length d2).ownBlock) := HNK0
                have HNL : Hid (ns.length + 1 ≤ maxLen ∧ (ns.length + 1) * 16 ≤ 140737488355328) := Lib.hid (by unfold maxLen; omega)
                have HA3 := Lib.hid a3
                have HSO : Hid (∀ u ∈ [Value.string ⟨s.toArray⟩], u.oneCell' = true) := fun u hu => by simp at hu; subst hu; rfl
                have HA4 := Lib.hid a4
                have HSZA := Lib.hid hsza
                have HC0 := Lib.hid k0
                have HC1 := Lib.hid k1
                have HC2 := Lib.hid k2
                have HC3 := Lib.hid k3
                have HC4 := Lib.hid k4
                have hklt := HIa.out.kown.lt
                have HKB : Hid (some (w.heap.size + 1) ≠ (Value.slice p1 acc.length d1).ownBlock) := fun e => by have := (hklt _ e.symm).1; omega
                have HKK : Hid (some w6.heap.size ≠ (Value.slice p1 acc.length d1).ownBlock) := HKK0
                have HKL : Hid (acc.length + 1 ≤ maxLen ∧ (acc.length + 1) * 80 ≤ 140737488355328) := Lib.hid (by unfold maxLen; omega)
                have hfr := HIa.out.five.free
                have HFAR : Hid (w.heap.size + 1 ≠ w6.heap.size) := HFAR0
                have HFR3 := Lib.hid hfr.2.2.2.1
                have HFR4 := Lib.hid hfr.2.2.2.2
                clear hnlt hsza hlen hneB hklt hfr
                refine wp_region_L (k := 11) (C := (fun w' => w'.cell? ⟨w.heap.size + 1, 3, none⟩ = some (.slice p1 acc.length d1) ∧ w'.cell? ⟨w.heap.size + 1, 4, none⟩ = some (.slice p2 ns.length d2))) (D := (fun w' => w'.cell? ⟨w6.heap.size, 0, none⟩ = some (.int .u8 v.kind) ∧ w'.cell? ⟨w6.heap.size, 1, none⟩ = some (.int .i64 v.num) ∧ w'.cell? ⟨w6.heap.size, 2, none⟩ = some (.string ⟨v.text.toArray⟩) ∧ w'.cell? ⟨w6.heap.size, 3, none⟩ = some (.slice p3 v.kids.length d3) ∧ w'.cell? ⟨w6.heap.size, 4, none⟩ = some (.slice p4 v.names.length d4))) (by kernel_rfl) ?_ (fun hHeld => ?_)
                · (try dsimp only)
                  first | go_keep | simp [*, World.cell?_setCell_far, HFAR.out]
                refine wpAnyL_take (i := 0) (oi := _) (v := ?zv1) rfl (by kernel_rfl) (by kernel_rfl) (by kernel_rfl) (by kernel_rfl) (fun _ _ _ h => h) (Or.inl ⟨by rfl, ?zh1⟩) (by assumption) ?zr1
                case zh1 =>
                  intro w hSw
                  try dsimp only at hSw
                  go_simp
                  all_goals (with_reducible rfl)
                have hHeld := HeldL.put (i := 0) (by assumption) (by kernel_rfl : (0 != _) = true)
                try simp only [Act.put, List.setIfInBounds_toArray]
                refine wpAnyL_takeC (i := 1) (oi := _) (v := ?zv2) rfl (by kernel_rfl) (by kernel_rfl) (by kernel_rfl) (by kernel_rfl) (by kernel_rfl) (by kernel_rfl) (fun _ _ _ h => h) (Or.inl ⟨by rfl, ?zh2⟩) (by assumption) ?zr2
                case zh2 =>
                  intro w hSw
                  try dsimp only at hSw
                  go_simp
                  all_goals (with_reducible rfl)
                have hHeld := HeldL.put (i := 1) (by assumption) (by kernel_rfl : (1 != _) = true)
                try simp only [Act.put]
                refine wpAnyL_take (i := 2) (oi := _) (v := ?zv3) rfl (by kernel_rfl) (by kernel_rfl) (by kernel_rfl) (by kernel_rfl) (fun _ _ _ h => h) (Or.inl ⟨by rfl, ?zh3⟩) (by assumption) ?zr3
                case zh3 =>
                  intro w hSw
                  try dsimp only at hSw
                  go_simp
                  all_goals (with_reducible rfl)
                have hHeld := HeldL.put (i := 2) (by assumption) (by kernel_rfl : (2 != _) = true)
                try simp only [Act.put]
                refine wpAnyL_take (i := 5) (oi := _) (v := ?zv4) rfl (by kernel_rfl) (by kernel_rfl) (by kernel_rfl) (by kernel_rfl) (fun _ _ _ h => h) (Or.inl ⟨by rfl, ?zh4⟩) (by assumption) ?zr4
                case zh4 =>
                  intro w hSw
                  try dsimp only at hSw
                  go_simp
                  all_goals (with_reducible rfl)
                have hHeld := HeldL.put (i := 5) (by assumption) (by kernel_rfl : (5 != _) = true)
                try simp only [Act.put]
                refine wpAnyL_takeC (i := 6) (oi := _) (v := ?zv5) rfl (by kernel_rfl) (by kernel_rfl) (by kernel_rfl) (by kernel_rfl) (by kernel_rfl) (by kernel_rfl) (fun _ _ _ h => h) (Or.inl ⟨by rfl, ?zh5⟩) (by assumption) ?zr5
                case zh5 =>
                  intro w hSw
                  try dsimp only at hSw
                  go_simp
                  all_goals (with_reducible rfl)
                have hHeld := HeldL.put (i := 6) (by assumption) (by kernel_rfl : (6 != _) = true)
                try simp only [Act.put]
                refine wpAnyL_take (i := 7) (oi := _) (v := ?zv6) rfl (by kernel_rfl) (by kernel_rfl) (by kernel_rfl) (by kernel_rfl) (fun _ _ _ h => h) (Or.inl ⟨by rfl, ?zh6⟩) (by assumption) ?zr6
                case zh6 =>
                  intro w hSw
                  try dsimp only at hSw
                  go_simp
                  all_goals (with_reducible rfl)
                have hHeld := HeldL.put (i := 7) (by assumption) (by kernel_rfl : (7 != _) = true)
                try simp only [Act.put]
                refine wpAnyL_ready (rs := [3, 8]) (by kernel_rfl) (by simp) ?_
                refine AllReadyL.early (o := _) rfl (fun K hK => ?_) ?_
                · go_simp
                  refine hK.out _ _ ?_ (fun hHeld => ?_)
                  · (try dsimp only)
                    first | go_keep | simp [*, World.cell?_setCell_far, HFAR.out]
                  clear hK K
                  try simp only [Act.put, List.setIfInBounds_toArray, List.set_cons_zero, List.set_cons_succ]
                  refine wpAnyL_ready (rs := [4, 8]) (by kernel_rfl) (by simp) ?_
                  refine AllReadyL.early (o := _) rfl (fun K hK => ?_) ?_
                  · (refine step_append_fresh rfl _ _ 25 rfl (w.heap.size + 2) 9 j0 (.string ⟨#[]⟩) 1 16 Tryd.underlying25 hj hy0 hy1 hy2 rfl (by decide) (.slice p2 ns.length d2) ns.length (strs ns) rfl (by first | exact HNR.out.alloc _ | exact (HNR.out.alloc _).alloc _) _ 1 1 [.string ⟨s.toArray⟩] rfl rfl (by first | exact names_new1 wa _ _ | exact names_new2 wa _ _ _ | exact names_new3 wa _ _ _) HSO.out HNL.out.1 HNL.out.2 (by have := HSZA.out; simp; omega) ?_; intro nv' w8 hn8 hg8 hf8; obtain ⟨q1, e1, rfl, _, _, _⟩ := row_of_owned hn8 (fun _ => True) (fun _ _ => trivial); have HM := Lib.hid (mid_of HKR.out HNR.out (by first | exact grown_alloc1 _ _ | exact grown_alloc2 _ _ _) hg8 hn8 hf8); have m3 := HM.out.cell HA3.out HNB.out; have m4 := HM.out.cell HA4.out HNB.out; have c0 := HM.out.cell k0 HNK.out; have c1 := HM.out.cell k1 HNK.out; have c2 := HM.out.cell k2 HNK.out; have c3 := HM.out.cell k3 HNK.out; have c4 := HM.out.cell k4 HNK.out; clear hg8 hn8 hf8)
                    refine hK.out _ _ ?_ (fun hHeld => ?_)
                    · (try dsimp only)
                      first | go_keep | simp [*, World.cell?_setCell_far, HFAR.out]
                    clear hK K
                    try simp only [Act.put, List.setIfInBounds_toArray]
                    refine wpAnyL_take (i := 10) (oi := _) (v := ?zv7) rfl (by kernel_rfl) (by kernel_rfl) (by kernel_rfl) (by kernel_rfl) (fun _ _ _ h => h) (Or.inl ⟨by rfl, ?zh7⟩) (by assumption) ?zr7
                    case zh7 =>
                      intro w hSw
                      try dsimp only at hSw
                      go_simp
                      all_goals (with_reducible rfl)
                    have hHeld := HeldL.put (i := 10) (by assumption) (by kernel_rfl : (10 != _) = true)
                    try simp only [Act.put]
                    refine wpAnyL_ready (rs := [8]) (by kernel_rfl) (by simp) ?_
                    refine AllReadyL.early (o := _) rfl (fun K hK => ?_) ?_
                    · go_simp
                      refine hK.out _ _ ?_ (fun hHeld => ?_)
                      · (try dsimp only)
                        first | go_keep | simp [*, World.cell?_setCell_far, HFAR.out]
                      clear hK K
                      try simp only [Act.put, List.setIfInBounds_toArray, List.set_cons_zero, List.set_cons_succ]
                      refine wpAnyL_ready (rs := [9]) (by kernel_rfl) (by simp) ?_
                      refine AllReadyL.early (o := _) rfl (fun K hK => ?_) ?_
                      · (refine step_append_fresh rfl _ _ 24 rfl (w.heap.size + 2) 27 i0 (.agg #[.int .u8 0, .int .i64 0, .string ⟨#[]⟩, .slice none 0 0, .slice none 0 0]) 5 80 Tryd.underlying24 hi hz0 hz1 hz2 rfl (by decide) (.slice p1 acc.length d1) acc.length css.flatten rfl (by first | exact HM.out.kown | exact HM.out.kown.alloc _) _ 1 1 [.int .u8 v.kind, .int .i64 v.num, .string ⟨v.text.toArray⟩, .slice p3 v.kids.length d3, .slice p4 v.names.length d4] rfl rfl (by first | exact new_cells w8 _ _ | exact HM.out.news2 | exact HM.out.news3) HONE.out HKL.out.1 HKL.out.2 (by have := HSZA.out; have := HM.out.size; simp; omega) ?_; intro kv' w9 hk9 hg9 hf9; obtain ⟨q2, e2, rfl, _, _, _⟩ := row_of_owned hk9 (fun _ => True) (fun _ _ => trivial); have HE9 := Lib.hid (end_of HKR.out HM.out (by first | exact grown_none _ | exact grown_one _ _) hg9 hk9 hf9); have u3 := HE9.out.cell HA3.out HKB.out HNB.out; have u4 := HE9.out.cell HA4.out HKB.out HNB.out; have v3 := HE9.out.free HA3.out HFR3.out HKB.out HNB.out; have v4 := HE9.out.free HA4.out HFR4.out HKB.out HNB.out; have g0 := HE9.out.cell HC0.out HKK.out HNK.out; have g1 := HE9.out.cell HC1.out HKK.out HNK.out; have g2 := HE9.out.cell HC2.out HKK.out HNK.out; have g3 := HE9.out.cell HC3.out HKK.out HNK.out; have g4 := HE9.out.cell HC4.out HKK.out HNK.out; clear hg9 hk9 hf9)
                        refine hK.out _ _ ?_ (fun hHeld => ?_)
                        · (try dsimp only)
                          first | go_keep | simp [*, World.cell?_setCell_far, HFAR.out]
                        clear hK K
                        try simp only [Act.put, List.setIfInBounds_toArray]
                        refine wpAnyL_ready (rs := [11]) (by kernel_rfl) (by simp) ?_
                        refine AllReadyL.late (o := _) rfl (by kernel_rfl) (fun K hK => ?_) ?_
                        · go_simp
                          refine hK.out _ _ ?_ (fun hHeld => ?_)
                          · (try dsimp only)
                            first | go_keep | simp [*, World.cell?_setCell_far, HFAR.out]
                          clear hK K
                          try simp only [Act.put, List.setIfInBounds_toArray, List.set_cons_zero, List.set_cons_succ]
                          refine wpAnyL_take (i := 12) (oi := _) (v := ?zv8) rfl (by kernel_rfl) (by kernel_rfl) (by kernel_rfl) (by kernel_rfl) (fun _ _ _ h => h) (Or.inl ⟨by rfl, ?zh8⟩) (by assumption) ?zr8
                          case zh8 =>
                            intro w hSw
                            try dsimp only at hSw
                            go_simp
                            all_goals (with_reducible rfl)
                          have hHeld := HeldL.put (i := 12) (by assumption) (by kernel_rfl : (12 != _) = true)
                          try simp only [Act.put, List.setIfInBounds_toArray]
                          refine wpAnyL_ready (rs := [13]) (by kernel_rfl) (by simp) ?_
                          refine AllReadyL.late (o := _) rfl (by kernel_rfl) (fun K hK => ?_) ?_
                          · go_simp
                            refine hK.out _ _ ?_ (fun hHeld => ?_)
                            · (try dsimp only)
                              first | go_keep | simp [*, World.cell?_setCell_far, HFAR.out]
                            clear hK K
                            try simp only [Act.put, List.setIfInBounds_toArray, List.set_cons_zero, List.set_cons_succ]
                            refine wpAnyL_done (by kernel_rfl) ?_ _
                            have hNX : Hid (ObjNext w.heap.size r b w (ns ++ [s]) (acc ++ [v]) l7 (css ++ [([.int .u8 v.kind, .int .i64 v.num, .string ⟨v.text.toArray⟩, .slice p3 v.kids.length d3, .slice p4 v.names.length d4] : List Value)]) ((w9.setCell ⟨w.heap.size + 1, 4, none⟩ (.slice q1 (ns.length + 1) e1)).setCell ⟨w.heap.size + 1, 3, none⟩ (.slice q2 (acc.length + 1) e2))) :=
                               ⟨_, _, fields_next HIa.out HVa.out hrw HB.out hr HE9.out.os HE9.out.tape HE9.out.output HE9.out.size HE9.out.old HE9.out.kown HE9.out.nown HE9.out.kfresh HE9.out.nfresh⟩
                            go_wp2
                            go_meet
                            case rel => exact hNX.out
                          exact AllReadyL.nil
                        exact AllReadyL.nil
                      exact AllReadyL.nil
                    exact AllReadyL.nil
                  refine AllReadyL.early (o := _) rfl (fun K hK => ?_) ?_
                  · go_simp
                    refine hK.out _ _ ?_ (fun hHeld => ?_)
                    · (try dsimp only)
                      first | go_keep | simp [*, World.cell?_setCell_far, HFAR.out]
                    clear hK K
                    try simp only [Act.put, List.setIfInBounds_toArray, List.set_cons_zero, List.set_cons_succ]
                    refine wpAnyL_ready (rs := [4]) (by kernel_rfl) (by simp) ?_
                    refine AllReadyL.early (o := _) rfl (fun K hK => ?_) ?_
                    · (refine step_append_fresh rfl _ _ 25 rfl (w.heap.size + 2) 9 j0 (.string ⟨#[]⟩) 1 16 Tryd.underlying25 hj hy0 hy1 hy2 rfl (by decide) (.slice p2 ns.length d2) ns.length (strs ns) rfl (by first | exact HNR.out.alloc _ | exact (HNR.out.alloc _).alloc _) _ 1 1 [.string ⟨s.toArray⟩] rfl rfl (by first | exact names_new1 wa _ _ | exact names_new2 wa _ _ _ | exact names_new3 wa _ _ _) HSO.out HNL.out.1 HNL.out.2 (by have := HSZA.out; simp; omega) ?_; intro nv' w8 hn8 hg8 hf8; obtain ⟨q1, e1, rfl, _, _, _⟩ := row_of_owned hn8 (fun _ => True) (fun _ _ => trivial); have HM := Lib.hid (mid_of HKR.out HNR.out (by first | exact grown_alloc1 _ _ | exact grown_alloc2 _ _ _) hg8 hn8 hf8); have m3 := HM.out.cell HA3.out HNB.out; have m4 := HM.out.cell HA4.out HNB.out; have c0 := HM.out.cell k0 HNK.out; have c1 := HM.out.cell k1 HNK.out; have c2 := HM.out.cell k2 HNK.out; have c3 := HM.out.cell k3 HNK.out; have c4 := HM.out.cell k4 HNK.out; clear hg8 hn8 hf8)
                      refine hK.out _ _ ?_ (fun hHeld => ?_)
                      · (try dsimp only)
                        first | go_keep | simp [*, World.cell?_setCell_far, HFAR.out]
                      clear hK K
                      try simp only [Act.put, List.setIfInBounds_toArray]
                      refine wpAnyL_take (i := 10) (oi := _) (v := ?zv9) rfl (by kernel_rfl) (by kernel_rfl) (by kernel_rfl) (by kernel_rfl) (fun _ _ _ h => h) (Or.inl ⟨by rfl, ?zh9⟩) (by assumption) ?zr9
                      case zh9 =>
                        intro w hSw
                        try dsimp only at hSw
                        go_simp
                        all_goals (with_reducible rfl)
                      have hHeld := HeldL.put (i := 10) (by assumption) (by kernel_rfl : (10 != _) = true)
                      try simp only [Act.put]
                      refine wpAnyL_ready (rs := [9]) (by kernel_rfl) (by simp) ?_
                      refine AllReadyL.early (o := _) rfl (fun K hK => ?_) ?_
                      · (refine step_append_fresh rfl _ _ 24 rfl (w.heap.size + 2) 27 i0 (.agg #[.int .u8 0, .int .i64 0, .string ⟨#[]⟩, .slice none 0 0, .slice none 0 0]) 5 80 Tryd.underlying24 hi hz0 hz1 hz2 rfl (by decide) (.slice p1 acc.length d1) acc.length css.flatten rfl (by first | exact HM.out.kown | exact HM.out.kown.alloc _) _ 1 1 [.int .u8 v.kind, .int .i64 v.num, .string ⟨v.text.toArray⟩, .slice p3 v.kids.length d3, .slice p4 v.names.length d4] rfl rfl (by first | exact new_cells w8 _ _ | exact HM.out.news2 | exact HM.out.news3) HONE.out HKL.out.1 HKL.out.2 (by have := HSZA.out; have := HM.out.size; simp; omega) ?_; intro kv' w9 hk9 hg9 hf9; obtain ⟨q2, e2, rfl, _, _, _⟩ := row_of_owned hk9 (fun _ => True) (fun _ _ => trivial); have HE9 := Lib.hid (end_of HKR.out HM.out (by first | exact grown_none _ | exact grown_one _ _) hg9 hk9 hf9); have u3 := HE9.out.cell HA3.out HKB.out HNB.out; have u4 := HE9.out.cell HA4.out HKB.out HNB.out; have v3 := HE9.out.free HA3.out HFR3.out HKB.out HNB.out; have v4 := HE9.out.free HA4.out HFR4.out HKB.out HNB.out; have g0 := HE9.out.cell HC0.out HKK.out HNK.out; have g1 := HE9.out.cell HC1.out HKK.out HNK.out; have g2 := HE9.out.cell HC2.out HKK.out HNK.out; have g3 := HE9.out.cell HC3.out HKK.out HNK.out; have g4 := HE9.out.cell HC4.out HKK.out HNK.out; clear hg9 hk9 hf9)
                        refine hK.out _ _ ?_ (fun hHeld => ?_)
                        · (try dsimp only)
                          first | go_keep | simp [*, World.cell?_setCell_far, HFAR.out]
                        clear hK K
                        try simp only [Act.put]
                        refine wpAnyL_ready (rs := [11]) (by kernel_rfl) (by simp) ?_
                        refine AllReadyL.late (o := _) rfl (by kernel_rfl) (fun K hK => ?_) ?_
                        · go_simp
                          refine hK.out _ _ ?_ (fun hHeld => ?_)
                          · (try dsimp only)
                            first | go_keep | simp [*, World.cell?_setCell_far, HFAR.out]
                          clear hK K
                          try simp only [Act.put, List.setIfInBounds_toArray, List.set_cons_zero, List.set_cons_succ]
                          refine wpAnyL_take (i := 12) (oi := _) (v := ?zv10) rfl (by kernel_rfl) (by kernel_rfl) (by kernel_rfl) (by kernel_rfl) (fun _ _ _ h => h) (Or.inl ⟨by rfl, ?zh10⟩) (by assumption) ?zr10
                          case zh10 =>
                            intro w hSw
                            try dsimp only at hSw
                            go_simp
                            all_goals (with_reducible rfl)
                          have hHeld := HeldL.put (i := 12) (by assumption) (by kernel_rfl : (12 != _) = true)
                          try simp only [Act.put, List.setIfInBounds_toArray]
                          refine wpAnyL_ready (rs := [13]) (by kernel_rfl) (by simp) ?_
                          refine AllReadyL.late (o := _) rfl (by kernel_rfl) (fun K hK => ?_) ?_
                          · go_simp
                            refine hK.out _ _ ?_ (fun hHeld => ?_)
                            · (try dsimp only)
                              first | go_keep | simp [*, World.cell?_setCell_far, HFAR.out]
                            clear hK K
                            try simp only [Act.put, List.setIfInBounds_toArray, List.set_cons_zero, List.set_cons_succ]
                            refine wpAnyL_done (by kernel_rfl) ?_ _
                            have hNX : Hid (ObjNext w.heap.size r b w (ns ++ [s]) (acc ++ [v]) l7 (css ++ [([.int .u8 v.kind, .int .i64 v.num, .string ⟨v.text.toArray⟩, .slice p3 v.kids.length d3, .slice p4 v.names.length d4] : List Value)]) ((w9.setCell ⟨w.heap.size + 1, 4, none⟩ (.slice q1 (ns.length + 1) e1)).setCell ⟨w.heap.size + 1, 3, none⟩ (.slice q2 (acc.length + 1) e2))) :=
                               ⟨_, _, fields_next HIa.out HVa.out hrw HB.out hr HE9.out.os HE9.out.tape HE9.out.output HE9.out.size HE9.out.old HE9.out.kown HE9.out.nown HE9.out.kfresh HE9.out.nfresh⟩
                            go_wp2
                            go_meet
                            case rel => exact hNX.out
                          exact AllReadyL.nil
                        exact AllReadyL.nil
                      exact AllReadyL.nil
                    exact AllReadyL.nil
                  exact AllReadyL.nil
                refine AllReadyL.early (o := _) rfl (fun K hK => ?_) ?_
                · go_simp
                  refine hK.out _ _ ?_ (fun hHeld => ?_)
                  · (try dsimp only)
                    first | go_keep | simp [*, World.cell?_setCell_far, HFAR.out]
                  clear hK K
                  try simp only [Act.put, List.setIfInBounds_toArray, List.set_cons_zero, List.set_cons_succ]
                  refine wpAnyL_ready (rs := [3]) (by kernel_rfl) (by simp) ?_
                  refine AllReadyL.early (o := _) rfl (fun K hK => ?_) ?_
                  · go_simp
                    refine hK.out _ _ ?_ (fun hHeld => ?_)
                    · (try dsimp only)
                      first | go_keep | simp [*, World.cell?_setCell_far, HFAR.out]
                    clear hK K
                    try simp only [Act.put, List.setIfInBounds_toArray, List.set_cons_zero, List.set_cons_succ]
                    refine wpAnyL_ready (rs := [4]) (by kernel_rfl) (by simp) ?_
                    refine AllReadyL.early (o := _) rfl (fun K hK => ?_) ?_
                    · (refine step_append_fresh rfl _ _ 25 rfl (w.heap.size + 2) 9 j0 (.string ⟨#[]⟩) 1 16 Tryd.underlying25 hj hy0 hy1 hy2 rfl (by decide) (.slice p2 ns.length d2) ns.length (strs ns) rfl (by first | exact HNR.out.alloc _ | exact (HNR.out.alloc _).alloc _) _ 1 1 [.string ⟨s.toArray⟩] rfl rfl (by first | exact names_new1 wa _ _ | exact names_new2 wa _ _ _ | exact names_new3 wa _ _ _) HSO.out HNL.out.1 HNL.out.2 (by have := HSZA.out; simp; omega) ?_; intro nv' w8 hn8 hg8 hf8; obtain ⟨q1, e1, rfl, _, _, _⟩ := row_of_owned hn8 (fun _ => True) (fun _ _ => trivial); have HM := Lib.hid (mid_of HKR.out HNR.out (by first | exact grown_alloc1 _ _ | exact grown_alloc2 _ _ _) hg8 hn8 hf8); have m3 := HM.out.cell HA3.out HNB.out; have m4 := HM.out.cell HA4.out HNB.out; have c0 := HM.out.cell k0 HNK.out; have c1 := HM.out.cell k1 HNK.out; have c2 := HM.out.cell k2 HNK.out; have c3 := HM.out.cell k3 HNK.out; have c4 := HM.out.cell k4 HNK.out; clear hg8 hn8 hf8)
                      refine hK.out _ _ ?_ (fun hHeld => ?_)
                      · (try dsimp only)
                        first | go_keep | simp [*, World.cell?_setCell_far, HFAR.out]
                      clear hK K
                      try simp only [Act.put, List.setIfInBounds_toArray]
                      refine wpAnyL_take (i := 10) (oi := _) (v := ?zv11) rfl (by kernel_rfl) (by kernel_rfl) (by kernel_rfl) (by kernel_rfl) (fun _ _ _ h => h) (Or.inl ⟨by rfl, ?zh11⟩) (by assumption) ?zr11
                      case zh11 =>
                        intro w hSw
                        try dsimp only at hSw
                        go_simp
                        all_goals (with_reducible rfl)
                      have hHeld := HeldL.put (i := 10) (by assumption) (by kernel_rfl : (10 != _) = true)
                      try simp only [Act.put]
                      refine wpAnyL_ready (rs := [9]) (by kernel_rfl) (by simp) ?_
                      refine AllReadyL.early (o := _) rfl (fun K hK => ?_) ?_
                      · (refine step_append_fresh rfl _ _ 24 rfl (w.heap.size + 2) 27 i0 (.agg #[.int .u8 0, .int .i64 0, .string ⟨#[]⟩, .slice none 0 0, .slice none 0 0]) 5 80 Tryd.underlying24 hi hz0 hz1 hz2 rfl (by decide) (.slice p1 acc.length d1) acc.length css.flatten rfl (by first | exact HM.out.kown | exact HM.out.kown.alloc _) _ 1 1 [.int .u8 v.kind, .int .i64 v.num, .string ⟨v.text.toArray⟩, .slice p3 v.kids.length d3, .slice p4 v.names.length d4] rfl rfl (by first | exact new_cells w8 _ _ | exact HM.out.news2 | exact HM.out.news3) HONE.out HKL.out.1 HKL.out.2 (by have := HSZA.out; have := HM.out.size; simp; omega) ?_; intro kv' w9 hk9 hg9 hf9; obtain ⟨q2, e2, rfl, _, _, _⟩ := row_of_owned hk9 (fun _ => True) (fun _ _ => trivial); have HE9 := Lib.hid (end_of HKR.out HM.out (by first | exact grown_none _ | exact grown_one _ _) hg9 hk9 hf9); have u3 := HE9.out.cell HA3.out HKB.out HNB.out; have u4 := HE9.out.cell HA4.out HKB.out HNB.out; have v3 := HE9.out.free HA3.out HFR3.out HKB.out HNB.out; have v4 := HE9.out.free HA4.out HFR4.out HKB.out HNB.out; have g0 := HE9.out.cell HC0.out HKK.out HNK.out; have g1 := HE9.out.cell HC1.out HKK.out HNK.out; have g2 := HE9.out.cell HC2.out HKK.out HNK.out; have g3 := HE9.out.cell HC3.out HKK.out HNK.out; have g4 := HE9.out.cell HC4.out HKK.out HNK.out; clear hg9 hk9 hf9)
                        refine hK.out _ _ ?_ (fun hHeld => ?_)
                        · (try dsimp only)
                          first | go_keep | simp [*, World.cell?_setCell_far, HFAR.out]
                        clear hK K
                        try simp only [Act.put]
                        refine wpAnyL_ready (rs := [11]) (by kernel_rfl) (by simp) ?_
                        refine AllReadyL.late (o := _) rfl (by kernel_rfl) (fun K hK => ?_) ?_
                        · go_simp
                          refine hK.out _ _ ?_ (fun hHeld => ?_)
                          · (try dsimp only)
                            first | go_keep | simp [*, World.cell?_setCell_far, HFAR.out]
                          clear hK K
                          try simp only [Act.put, List.setIfInBounds_toArray, List.set_cons_zero, List.set_cons_succ]
                          refine wpAnyL_take (i := 12) (oi := _) (v := ?zv12) rfl (by kernel_rfl) (by kernel_rfl) (by kernel_rfl) (by kernel_rfl) (fun _ _ _ h => h) (Or.inl ⟨by rfl, ?zh12⟩) (by assumption) ?zr12
                          case zh12 =>
                            intro w hSw
                            try dsimp only at hSw
                            go_simp
                            all_goals (with_reducible rfl)
                          have hHeld := HeldL.put (i := 12) (by assumption) (by kernel_rfl : (12 != _) = true)
                          try simp only [Act.put, List.setIfInBounds_toArray]
                          refine wpAnyL_ready (rs := [13]) (by kernel_rfl) (by simp) ?_
                          refine AllReadyL.late (o := _) rfl (by kernel_rfl) (fun K hK => ?_) ?_
                          · go_simp
                            refine hK.out _ _ ?_ (fun hHeld => ?_)
                            · (try dsimp only)
                              first | go_keep | simp [*, World.cell?_setCell_far, HFAR.out]
                            clear hK K
                            try simp only [Act.put, List.setIfInBounds_toArray, List.set_cons_zero, List.set_cons_succ]
                            refine wpAnyL_done (by kernel_rfl) ?_ _
                            have hNX : Hid (ObjNext w.heap.size r b w (ns ++ [s]) (acc ++ [v]) l7 (css ++ [([.int .u8 v.kind, .int .i64 v.num, .string ⟨v.text.toArray⟩, .slice p3 v.kids.length d3, .slice p4 v.names.length d4] : List Value)]) ((w9.setCell ⟨w.heap.size + 1, 4, none⟩ (.slice q1 (ns.length + 1) e1)).setCell ⟨w.heap.size + 1, 3, none⟩ (.slice q2 (acc.length + 1) e2))) :=
                               ⟨_, _, fields_next HIa.out HVa.out hrw HB.out hr HE9.out.os HE9.out.tape HE9.out.output HE9.out.size HE9.out.old HE9.out.kown HE9.out.nown HE9.out.kfresh HE9.out.nfresh⟩
                            go_wp2
                            go_meet
                            case rel => exact hNX.out
                          exact AllReadyL.nil
                        exact AllReadyL.nil
                      exact AllReadyL.nil
                    exact AllReadyL.nil
                  exact AllReadyL.nil
                exact AllReadyL.nil
              case rest =>
                have hlen := HIa.out.len
                have HT6 : Hid ((match blanks l7 with
                  | [] => .err 5
                  | d :: r2 => if d = 125 then .ok (.mk 5 0 [] (acc ++ [v]) (ns ++ [s])) r2 else if d = 44 then fields gm n (ns ++ [s]) (acc ++ [v]) r2 else .err 5) = R) := HT5.out
                have HC2 : Hid (acc.length + 1 = (acc ++ [v]).length) := by show _ = _; simp
                have HN2 : Hid (ns.length + 1 = (ns ++ [s]).length) := by show _ = _; simp
                clear k0 k1 k2 k3 k4 a3 a4 HIa HVa HNK0 HKK0 HFAR0 hi hz0 hz1 hz2 hj hy0 hy1 hy2 i0 j0 HONE HT5
                generalize css ++ [([.int .u8 v.kind, .int .i64 v.num, .string ⟨v.text.toArray⟩, .slice p3 v.kids.length d3, .slice p4 v.names.length d4] : List Value)] = css2 at *
                generalize acc ++ [v] = acc2 at *
                generalize ns ++ [s] = ns2 at *
                obtain ⟨kv2, nv2, hI⟩ := hcut
                have HI := Lib.hid hI
                clear hI
                go_wp2_with fail
                refine (blanks_any r b l7 wc HI.out.rd).mono ?_
                rintro e w7 ⟨rfl, hR7, hK7⟩
                have HI7 := Lib.hid (HI.out.on hK7 hrw hr hR7)
                have hl8 := blanks_le l7
                clear HI hR7 hK7
                generalize blanks l7 = l8 at *
                cases hk : isHead l8 125 with
                | true =>
                  obtain ⟨l9, rfl⟩ := head_of hk 125 rfl
                  have HF : Hid (R = .ok (.mk 5 0 [] acc2 ns2) l9) := HT6.out.symm
                  clear HT6 hk HV
                  go_wp2_with fail
                  refine (is_t r b (125 :: l9) 125 _ HI7.out.rd rfl).mono ?_
                  rintro e w8 ⟨rfl, hR8, hK8⟩
                  have hI8 := HI7.out.on hK8 hrw hr hR8
                  obtain ⟨q1, e1, q2, e2, rfl, rfl⟩ := hI8.shape
                  obtain ⟨a0, a1, a2, a3, a4⟩ := hI8.res.cells
                  obtain ⟨b0, b1, b2, b3, b4⟩ := hI8.five.cells
                  obtain ⟨c0, c1, c2, c3, c4⟩ := hI8.res.free
                  have HI8 := Lib.hid hI8
                  clear hI8 hR8 hK8 HI7
                  go_wp2
                  refine bodyPost_ret (v := .agg #[.int .u8 5, .int .i64 0, .string ⟨#[]⟩, .slice q1 acc2.length e1, .slice q2 ns2.length e2]) (results_five Tryd.results29 rfl (HI8.out.res.put _ _ _ _ _)) rfl ?_
                  exact val_ret HF.out HI8.out.res (Nat.le_refl _) HI8.out.value HI8.out.rd HB.out HRW.out HI8.out.kept
                | false =>
                  cases hk2 : isHead l8 44 with
                  | true =>
                    obtain ⟨l9, rfl⟩ := head_of hk2 44 rfl
                    have HT7 : Hid (fields gm n ns2 acc2 l9 = R) := HT6.out
                    clear HT6 hk2 HV
                    go_wp2_with (first | (go_at_call 27; (with_reducible refine (is_f r b (44 :: l9) 125 _ HI7.out.rd hk).mono ?_); rintro e w' ⟨rfl, rfl⟩))
                    refine (is_t r b (44 :: l9) 44 _ HI7.out.rd rfl).mono ?_
                    rintro e w8 ⟨rfl, hR8, hK8⟩
                    have hI8 := HI7.out.on hK8 hrw hr hR8
                    have hc2 := HC2.out
                    simp only [List.length_cons] at hl2 hl4 hl5 hl7 hl8
                    have HA2 : Hid (ObjAt w.heap.size r b n l.length w R gm w8) := ⟨ns2, acc2, l9, _, _, _, HT7.out, by omega, by omega, hI8⟩
                    clear hI8 hR8 hK8 HI7 hk hc2 HC2 HN2 HT7
                    go_wp2_with (first | (go_at_call 18; (with_reducible refine (need_t _).mono ?_); rintro e w' ⟨rfl, rfl⟩))
                    go_roundg gm
                    case measure => omega
                    case rel => exact ⟨by omega, HA2.out⟩
                  | false =>
                    have HF : Hid (R = .err 5) := by
                      have h1 := HT6.out
                      cases l8 with
                      | nil => exact h1.symm
                      | cons c l9 =>
                        simp only [if_neg (not_head hk 125 rfl), if_neg (not_head hk2 44 rfl)] at h1
                        exact h1.symm
                    clear HT6
                    go_wp2_with (first | (go_at_call 27; (with_reducible refine (is_f r b l8 125 _ HI7.out.rd hk).mono ?_); rintro e w' ⟨rfl, rfl⟩) | (go_at_call 27; (with_reducible refine (is_f r b l8 44 _ HI7.out.rd hk2).mono ?_); rintro e w' ⟨rfl, rfl⟩) | (go_at_call 18; (with_reducible refine (need_f _).mono ?_); rintro e w' ⟨rfl, rfl⟩))
                    exact ⟨rfl, ValPost.err HF.out ⟨rfl, HI7.out.kept⟩⟩

theorem object_of (f : Nat) (hv : ∀ g, g < f → ValueOk g) : ObjectOk f := by
  intro r b n l w hn0 hn8 h hE hr hL hf
  cases l with
  | cons c l => exact object_hb f hv r b n (c :: l) w hn0 hn8 h hE hr hL hf (h.blt (by simp))
  | nil =>
    have h0 : Rd w r 0 [] := by
      obtain ⟨v, a1, a2, a3, p, c, rfl, h1, h2, _⟩ := h
      exact ⟨_, a1, a2, by have := NG_eq; omega, p, c, rfl, h1, h2, fun h => absurd rfl h⟩
    refine (object_hb f hv r 0 n [] w hn0 hn8 h0 hE hr hL hf (by have := hE.size; have := NG_eq; omega)).mono fun e w' hp => ?_
    obtain ⟨g, rfl⟩ : ∃ g, f = g + 2 := ⟨f - 2, by omega⟩
    have hx : object (g + 2) n [] = .err 5 := rfl
    exact ValPost.err hx (hp.get_err hx)
end Go.Proofs.YtcmlppknfbndaaaDoor
