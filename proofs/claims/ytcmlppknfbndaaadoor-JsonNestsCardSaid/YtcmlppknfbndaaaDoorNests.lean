/-
  The law JsonNests, walked. Conditions: each contract's own.
-/
import Derived.Test.YtcmlppknfbndaaaDoorShort
import Derived.Test.YtcmlppknfbndaaaDoorNestLaw
namespace Go.Proofs.YtcmlppknfbndaaaDoor
open Go.RowKit Js

section
variable {P : Program} (w : World)
theorem append_string_fresh (base : Nat) (t u ty e : TypeId) (i : TypeInfo) (ht : P.underlying t = some (.slice e)) (hu : P.underlying u = some .string) (hi : P.info? e = some i) (hz : i.zero = some (.int .u8 0))
    (hsize : i.size = 1) (hby : i.bytes = 1)
    (v : Value) (n : Nat) (xs : List Value) (hown : w.ownsRow base e 1 v n xs) (s : ByteArray)
    (h63 : n + s.size ≤ maxLen) (hbytes : n + s.size ≤ 140737488355328) (hbase : base ≤ w.heap.size) :
    ∃ v' w', (Builtin.append_ #[t, u] ty #[v, .string s]).run P w = .ok v' w' ∧ w'.ownsRow base e 1 v' (n + s.size) (xs ++ Lib.strCells s) ∧ w.grownBy w' v.ownBlock ∧ Fresh w v v' := by
  obtain ⟨v', w', hr, h2, h3, _⟩ := Lib.run_append_own_string (P := P) w base t u ty e i ht hu hi hz hsize hby v n xs hown s h63 hbytes hbase
  refine ⟨v', w', hr, h2, h3, ?_⟩
  have hcells := @World.ownsRow.cells w base e 1 v n xs hown
  have hx := hown.1
  have hsmall : n + s.size ≤ 9223372036854775807 := by simp only [maxLen] at h63; omega
  rcases hown.2 with ⟨rfl, rfl⟩ | ⟨g, cap, cur, rfl, hbg, hg, hnc, hcm, hcs, htake⟩
  · obtain ⟨v2, w2, hr2, h22, _, _⟩ := Lib.run_append_own_string (P := P) w w.heap.size t u ty e i ht hu hi hz hsize hby (.slice none 0 0) 0 xs ⟨hx, .inl ⟨rfl, rfl⟩⟩ s h63 hbytes (Nat.le_refl _)
    have e2 := hr.symm.trans hr2
    injection e2 with e3 e4
    subst e3
    cases hb : v'.ownBlock with
    | none => exact .inl (by rw [hb]; rfl)
    | some k => exact .inr ⟨k, hb, (h22.lt k hb).1⟩
  · by_cases hroom : n + s.size ≤ cap
    · have hcs' : cur.size = cap := by simpa using hcs
      have hr2 := Lib.run_append_room_string (P := P) w t u ty e i ht hu hi hsize g n cap cur hg s hroom (by omega)
      have e2 := hr.symm.trans hr2
      injection e2 with e3 e4
      subst e3
      exact .inl rfl
    · have hr2 := Lib.run_append_grow_string (P := P) w t u ty e i (.int .u8 0) ht hu hi hz ⟨g, 0, none⟩ n cap xs (by rw [hsize]; simpa using hx) (hcells rfl) s (by omega) (by omega) (by rw [hby]; exact growslice_fits (by omega) (by omega))
      have e2 := hr.symm.trans hr2
      injection e2 with e3 e4
      subst e3
      exact .inr ⟨w.heap.size, rfl, Nat.le_refl _⟩
theorem wpList_append_string_fresh {ops : Array Oper} {rest : List Oper} {o : Oper} {a : Act} {Q : Exit → Act → World → Prop} (hgd : o.guard = none) (s x : Operand) (t u : TypeId)
    (ho : o.op = .call { callee := .builtin .append, args := #[s, x], argTypes := #[t, u] })
    (base : Nat) (e : TypeId) (i : TypeInfo) (ht : P.underlying t = some (.slice e)) (hu : P.underlying u = some .string) (hi : P.info? e = some i) (hz : i.zero = some (.int .u8 0)) (hsize : i.size = 1) (hby : i.bytes = 1)
    (v : Value) (n : Nat) (xs : List Value) (hs : a.eval s = v) (hown : w.ownsRow base e 1 v n xs) (st : ByteArray) (hx : a.eval x = .string st)
    (h63 : n + st.size ≤ maxLen) (hbytes : n + st.size ≤ 140737488355328) (hbase : base ≤ w.heap.size)
    (h : ∀ v' w', w'.ownsRow base e 1 v' (n + st.size) (xs ++ Lib.strCells st) → w.grownBy w' v.ownBlock → Fresh w v v' → wpList P ops Q rest (a.put o.dst v') w') : wpList P ops Q (o :: rest) a w := by
  refine wpList_plain hgd fun K hK => ?_
  obtain ⟨v', w', hr, h2, h3, h4⟩ := append_string_fresh (P := P) w base t u o.type e i ht hu hi hz hsize hby v n xs hown st h63 hbytes hbase
  unfold Oper.wp execOp
  simp only [ho, resolve, invoke, builtin, Sem.run_bind, Sem.run_pure, Result.andThen_ok, List.map_toArray, List.map_cons, List.map_nil, hs, hx, hr]
  exact hK _ _ (h v' w' h2 h3 h4)
end

/-- Blocks above N that hold no bytes. -/
def NOk (N : Nat) (w : World) (k : Nat) : Prop := N < k ∧ ∃ o, w.heap[k]? = some o ∧ ∀ c fz, o ≠ .cells c 5 fz
theorem NOk.keep {N : Nat} {w w' : World} (h : Lib.OthersKept 5 none w w') {k : Nat} (hk : NOk N w k) : w'.heap[k]? = w.heap[k]? ∧ NOk N w' k := by
  obtain ⟨h1, o, h2, h3⟩ := hk
  have := h k o h2 (by simp) h3
  exact ⟨by rw [this, h2], h1, o, this, h3⟩

/-- The value so far in its box, the bytes ahead and behind. -/
structure NIn (w : World) (v : V) (B T : List UInt8) (bv tv : Value) (wr : World) : Prop where
  below : Below w.heap.size w wr
  box : ∃ p c q d, Five wr w.heap.size (.int .u8 v.kind) (.int .i64 v.num) (.string ⟨v.text.toArray⟩) (.slice p v.kids.length c) (.slice q v.names.length d) ∧
    VAt wr (NOk w.heap.size wr) v [.int .u8 v.kind, .int .i64 v.num, .string ⟨v.text.toArray⟩, .slice p v.kids.length c, .slice q v.names.length d]
  b : wr.ownsRow (w.heap.size + 1) 5 1 bv B.length (Lib.byteCells B)
  t : wr.ownsRow (w.heap.size + 1) 5 1 tv T.length (Lib.byteCells T)
  apart : ∀ g, bv.ownBlock = some g → tv.ownBlock ≠ some g

theorem NIn.lt {w : World} {v : V} {B T : List UInt8} {bv tv : Value} {wr : World} (h : NIn w v B T bv tv wr) : w.heap.size < wr.heap.size := by
  obtain ⟨_, _, _, _, h1, _⟩ := h.box
  exact h1.lt
theorem others_of_grown {B n : Nat} {w w' : World} {sv : Value} {xs : List Value} (h : w.ownsRow B 5 1 sv n xs) (g : w.grownBy w' sv.ownBlock) : Lib.OthersKept 5 none w w' := (Fr.of_grown (B := 0) ⟨h.1, by
  rcases h.2 with h | ⟨g, cap, cur, h1, h2, h3⟩
  · exact .inl h
  · exact .inr ⟨g, cap, cur, h1, Nat.zero_le _, h3⟩⟩ (Nat.zero_le _) g).others
theorem byteCells_app (a b : List UInt8) : Lib.byteCells (a ++ b) = Lib.byteCells a ++ Lib.byteCells b := byteCells_append a b
/-- More bytes ahead. -/
theorem NIn.app_b {w : World} {v : V} {B T : List UInt8} {bv tv : Value} {wr : World} (h : NIn w v B T bv tv wr) {x : List UInt8} {bv' : Value} {w' : World}
    (ho : w'.ownsRow (w.heap.size + 1) 5 1 bv' (B.length + x.length) (Lib.byteCells B ++ Lib.byteCells x)) (hg : wr.grownBy w' bv.ownBlock) (hf : Fresh wr bv bv') : NIn w v (B ++ x) T bv' tv w' := by
  have hoth := others_of_grown h.b hg
  obtain ⟨p, c, q, d, h1, h2⟩ := h.box
  refine ⟨below_of_grown h.below hg h.below.size (fun k hk => by have := (h.b.lt k hk).1; omega), ⟨p, c, q, d, five_others h1 hoth, ?_⟩, by rw [byteCells_app, List.length_append]; exact ho, h.t.kept hg ?_, fun g hg' => ?_⟩
  · exact VAt.mono (fun k hk => (NOk.keep hoth hk).2) _ _ (VAt.same (fun k hk => (NOk.keep hoth hk).1) _ _ h2)
  · cases hb : tv.ownBlock with
    | none => exact .inl rfl
    | some g => right; intro e; exact h.apart g e.symm hb
  · rcases hf with e | ⟨k, e, hk⟩
    · rw [e] at hg'; exact h.apart g hg'
    · rw [e] at hg'
      injection hg' with hg'
      intro e2
      have := (h.t.lt g e2).2
      omega
/-- More bytes behind. -/
theorem NIn.app_t {w : World} {v : V} {B T : List UInt8} {bv tv : Value} {wr : World} (h : NIn w v B T bv tv wr) {x : List UInt8} {tv' : Value} {w' : World}
    (ho : w'.ownsRow (w.heap.size + 1) 5 1 tv' (T.length + x.length) (Lib.byteCells T ++ Lib.byteCells x)) (hg : wr.grownBy w' tv.ownBlock) (hf : Fresh wr tv tv') : NIn w v B (T ++ x) bv tv' w' := by
  have hoth := others_of_grown h.t hg
  obtain ⟨p, c, q, d, h1, h2⟩ := h.box
  refine ⟨below_of_grown h.below hg h.below.size (fun k hk => by have := (h.t.lt k hk).1; omega), ⟨p, c, q, d, five_others h1 hoth, ?_⟩, h.b.kept hg ?_, by rw [byteCells_app, List.length_append]; exact ho, fun g hg' e2 => ?_⟩
  · exact VAt.mono (fun k hk => (NOk.keep hoth hk).2) _ _ (VAt.same (fun k hk => (NOk.keep hoth hk).1) _ _ h2)
  · cases hb : bv.ownBlock with
    | none => exact .inl rfl
    | some g => right; exact fun e => h.apart g hb e.symm
  · rcases hf with e | ⟨k, e, hk⟩
    · rw [e] at e2; exact h.apart g hg' e2
    · rw [e] at e2
      injection e2 with e2
      have := (h.b.lt g hg').2
      omega
/-- A block that is laid, of whatever kind. -/
theorem NIn.alloc {w : World} {v : V} {B T : List UInt8} {bv tv : Value} {wr : World} (h : NIn w v B T bv tv wr) (o : Obj) : NIn w v B T bv tv (wr.alloc o) := by
  obtain ⟨p, c, q, d, h1, h2⟩ := h.box
  have hoth : Lib.OthersKept 5 none wr (wr.alloc o) := (Lib.OthersKept.refl _ _ _).alloc o
  exact ⟨h.below.alloc h.below.size o, ⟨p, c, q, d, h1.same (Below.heap_alloc _ _ _ h1.lt), VAt.mono (fun k hk => (NOk.keep hoth hk).2) _ _ (VAt.same (fun k hk => (NOk.keep hoth hk).1) _ _ h2)⟩, h.b.alloc o, h.t.alloc o, h.apart⟩
/-- Five cells stored into the box. -/
theorem grown_five (w : World) (g : Nat) (a b c d e : Value) : w.grownBy (((((w.setCell ⟨g, 0, none⟩ a).setCell ⟨g, 1, none⟩ b).setCell ⟨g, 2, none⟩ c).setCell ⟨g, 3, none⟩ d).setCell ⟨g, 4, none⟩ e) (some g) :=
  have hb := below_five g w g a b c d e (Nat.le_refl _)
  ⟨hb.os, hb.tape, hb.output, hb.size, fun k _ hne => other_five w g k a b c d e (fun x => hne (by rw [x]))⟩
theorem NIn.put_ {w : World} {v v' : V} {B T : List UInt8} {bv tv : Value} {wr : World} (h : NIn w v B T bv tv wr) {p q : Option Addr} {c d : Nat}
    (hV : VAt wr (NOk w.heap.size wr) v' [.int .u8 v'.kind, .int .i64 v'.num, .string ⟨v'.text.toArray⟩, .slice p v'.kids.length c, .slice q v'.names.length d]) :
    NIn w v' B T bv tv (((((wr.setCell ⟨w.heap.size, 0, none⟩ (.int .u8 v'.kind)).setCell ⟨w.heap.size, 1, none⟩ (.int .i64 v'.num)).setCell ⟨w.heap.size, 2, none⟩ (.string ⟨v'.text.toArray⟩)).setCell ⟨w.heap.size, 3, none⟩ (.slice p v'.kids.length c)).setCell ⟨w.heap.size, 4, none⟩ (.slice q v'.names.length d)) := by
  obtain ⟨p0, c0, q0, d0, h1, _⟩ := h.box
  have hg := grown_five wr w.heap.size (.int .u8 v'.kind) (.int .i64 v'.num) (.string ⟨v'.text.toArray⟩) (.slice p v'.kids.length c) (.slice q v'.names.length d)
  have hk : ∀ k, NOk w.heap.size wr k → (((((wr.setCell ⟨w.heap.size, 0, none⟩ (.int .u8 v'.kind)).setCell ⟨w.heap.size, 1, none⟩ (.int .i64 v'.num)).setCell ⟨w.heap.size, 2, none⟩ (.string ⟨v'.text.toArray⟩)).setCell ⟨w.heap.size, 3, none⟩ (.slice p v'.kids.length c)).setCell ⟨w.heap.size, 4, none⟩ (.slice q v'.names.length d)).heap[k]? = wr.heap[k]? := fun k hk => other_five _ _ _ _ _ _ _ _ (by have := hk.1; omega)
  refine ⟨h.below.trans (below_five w.heap.size wr w.heap.size _ _ _ _ _ (Nat.le_refl _)), ⟨p, c, q, d, h1.put _ _ _ _ _, VAt.mono (fun k hk' => ?_) _ _ (VAt.same hk _ _ hV)⟩, h.b.kept hg ?_, h.t.kept hg ?_, h.apart⟩
  · obtain ⟨a1, o, a2, a3⟩ := hk'
    exact ⟨a1, o, by rw [hk k ⟨a1, o, a2, a3⟩]; exact a2, a3⟩
  · cases hb : bv.ownBlock with
    | none => exact .inl rfl
    | some g => right; intro e; injection e with e; have := (h.b.lt g hb).1; omega
  · cases hb : tv.ownBlock with
    | none => exact .inl rfl
    | some g => right; intro e; injection e with e; have := (h.t.lt g hb).1; omega
/-- A list round the value. -/
theorem NIn.list_at {w : World} {v : V} {B T : List UInt8} {bv tv : Value} {wr : World} (h : NIn w v B T bv tv wr) {p q : Option Addr} {c d : Nat}
    (hV : VAt wr (NOk w.heap.size wr) v [.int .u8 v.kind, .int .i64 v.num, .string ⟨v.text.toArray⟩, .slice p v.kids.length c, .slice q v.names.length d]) :
    VAt (wr.alloc (.cells #[.int .u8 v.kind, .int .i64 v.num, .string ⟨v.text.toArray⟩, .slice p v.kids.length c, .slice q v.names.length d] 27)) (NOk w.heap.size (wr.alloc (.cells #[.int .u8 v.kind, .int .i64 v.num, .string ⟨v.text.toArray⟩, .slice p v.kids.length c, .slice q v.names.length d] 27))) (.mk 4 0 [] [v] [])
      [.int .u8 4, .int .i64 0, .string ⟨#[]⟩, .slice (some ⟨wr.heap.size, 0, none⟩) 1 1, .slice none 0 0] := by
  have hoth : Lib.OthersKept 5 none wr (wr.alloc (.cells #[.int .u8 v.kind, .int .i64 v.num, .string ⟨v.text.toArray⟩, .slice p v.kids.length c, .slice q v.names.length d] 27)) := (Lib.OthersKept.refl _ _ _).alloc _
  refine ⟨_, _, [[.int .u8 v.kind, .int .i64 v.num, .string ⟨v.text.toArray⟩, .slice p v.kids.length c, .slice q v.names.length d]], rfl, ⟨_, _, rfl, VAt.mono (fun k hk => (NOk.keep hoth hk).2) _ _ (VAt.same (fun k hk => (NOk.keep hoth hk).1) _ _ hV), rfl⟩, ⟨_, _, rfl, by simp, by decide, fun _ => ⟨wr.heap.size, 0, rfl, ⟨h.lt, _, heap_alloc_new wr _, ?_⟩, ?_⟩⟩, RowAt.nil _ _⟩
  · intro cc fz e
    injection e with e1 e2
    exact absurd e2 (by decide)
  · exact cells_of_block (heap_alloc_new wr _)
/-- An object round the value. -/
theorem NIn.object_at {w : World} {v : V} {B T : List UInt8} {bv tv : Value} {wr : World} (h : NIn w v B T bv tv wr) {p q : Option Addr} {c d : Nat}
    (hV : VAt wr (NOk w.heap.size wr) v [.int .u8 v.kind, .int .i64 v.num, .string ⟨v.text.toArray⟩, .slice p v.kids.length c, .slice q v.names.length d]) (K : Obj) (hKe : K = .cells #[.int .u8 v.kind, .int .i64 v.num, .string ⟨v.text.toArray⟩, .slice p v.kids.length c, .slice q v.names.length d] 27) :
    VAt ((wr.alloc K).alloc (.cells #[.string ⟨#[120]⟩] 9)) (NOk w.heap.size ((wr.alloc K).alloc (.cells #[.string ⟨#[120]⟩] 9))) (.mk 5 0 [] [v] [[120]])
      [.int .u8 5, .int .i64 0, .string ⟨#[]⟩, .slice (some ⟨wr.heap.size, 0, none⟩) 1 1, .slice (some ⟨wr.heap.size + 1, 0, none⟩) 1 1] := by
  have hoth : Lib.OthersKept 5 none wr ((wr.alloc K).alloc (.cells #[.string ⟨#[120]⟩] 9)) := ((Lib.OthersKept.refl _ _ _).alloc _).alloc _
  have hs : (wr.alloc K).heap.size = wr.heap.size + 1 := by simp
  have hb1 : ((wr.alloc K).alloc (.cells #[.string ⟨#[120]⟩] 9)).heap[wr.heap.size]? = some K := by
    rw [Below.heap_alloc _ _ _ (by omega)]
    exact heap_alloc_new wr K
  have hb2 : ((wr.alloc K).alloc (.cells #[.string ⟨#[120]⟩] 9)).heap[wr.heap.size + 1]? = some (.cells #[.string ⟨#[120]⟩] 9 (0, 0)) := by
    rw [← hs]
    exact heap_alloc_new _ _
  have hlt := h.lt
  refine ⟨_, _, [[.int .u8 v.kind, .int .i64 v.num, .string ⟨v.text.toArray⟩, .slice p v.kids.length c, .slice q v.names.length d]], rfl, ⟨_, _, rfl, VAt.mono (fun k hk => (NOk.keep hoth hk).2) _ _ (VAt.same (fun k hk => (NOk.keep hoth hk).1) _ _ hV), rfl⟩, ⟨_, _, rfl, by simp, by decide, fun _ => ⟨wr.heap.size, 0, rfl, ⟨hlt, _, hb1, ?_⟩, ?_⟩⟩, ⟨_, _, rfl, by simp, by decide, fun _ => ⟨wr.heap.size + 1, 0, rfl, ⟨by omega, _, hb2, ?_⟩, cells_of_block hb2⟩⟩⟩
  · intro cc fz e
    rw [hKe] at e
    injection e with e1 e2
    exact absurd e2 (by decide)
  · have hb1' := hb1
    rw [hKe] at hb1'
    rw [hKe]
    exact cells_of_block hb1'
  · intro cc fz e
    injection e with e1 e2
    exact absurd e2 (by decide)
end Go.Proofs.YtcmlppknfbndaaaDoor
