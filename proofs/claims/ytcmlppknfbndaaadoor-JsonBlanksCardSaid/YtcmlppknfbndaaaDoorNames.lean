/-
  A LIST OF NAMES, AND WHETHER A NAME IS AMONG THEM; 'append' inside a statement whose order is open. Conditions: each lemma's own.
-/
import Derived.Test.YtcmlppknfbndaaaDoorList
import Derived.Deep.RegionHeld3
import Derived.Deep.RegionHeldLaw
import Derived.Deep.DeepCutAuto
namespace Go.Proofs.YtcmlppknfbndaaaDoor
open Go.RowKit Js

def bas (ns : List (List UInt8)) : List ByteArray := ns.map fun l => ⟨l.toArray⟩
theorem bas_length (ns : List (List UInt8)) : (bas ns).length = ns.length := by simp [bas]
theorem ba_inj {a b : List UInt8} : (ByteArray.mk a.toArray = ByteArray.mk b.toArray) ↔ a = b := by
  constructor
  · intro h
    have := congrArg (fun x => x.data.toList) h
    simpa using this
  · rintro rfl; rfl
theorem names_cells {w : World} {g o : Nat} {ns : List (List UInt8)} (h : CellsAt w g o (strs ns)) : ∀ j, j < (bas ns).length → w.cell? ⟨g, o + j, none⟩ = some (.string ((bas ns).getD j ByteArray.empty)) := fun j hj => by
  rw [bas_length] at hj
  have := h j (strv ns[j]) (by simp [strs, hj])
  rw [this]
  simp [bas, List.getD, hj, strv]
theorem containsS_bas (ns : List (List UInt8)) (s : List UInt8) : Lib.containsS (bas ns) ⟨s.toArray⟩ = ns.contains s := by
  rw [Bool.eq_iff_iff, Lib.containsS_iff, List.contains_iff_mem]
  simp only [bas, List.mem_map]
  constructor
  · rintro ⟨l, hl, he⟩
    rw [← ba_inj.1 he]; exact hl
  · intro h
    exact ⟨s, h, rfl⟩
theorem contains_any {w : World} {ok : Nat → Prop} {nv : Value} {ns : List (List UInt8)} (h : RowAt w ok nv ns.length (strs ns)) (s : List UInt8) (t : Bool) (ht : ns.contains s = t) :
    Calls Tryd.prog 43 #[nv, .string ⟨s.toArray⟩] w fun e w' => e = .returned (.bool t) ∧ w = w' := by
  obtain ⟨p, c, rfl, h1, h2, h3⟩ := h
  cases ns with
  | nil =>
    refine (Tryd.slices_Contains_string_empty p c _ w).mono fun e w' ⟨a, b⟩ => ⟨?_, b.symm⟩
    rw [a, ← ht]; rfl
  | cons x ns =>
    obtain ⟨g, o, rfl, _, hc⟩ := h3 (by simp)
    refine (Tryd.slices_Contains_string g o (x :: ns).length c (bas (x :: ns)) ⟨s.toArray⟩ w (by rw [bas_length]; exact Nat.le_refl _) (by omega) (names_cells hc)).mono fun e w' ⟨a, b⟩ => ⟨?_, b.symm⟩
    rw [a, ← ht, List.take_of_length_le (by rw [bas_length]; exact Nat.le_refl _), containsS_bas]

theorem step_append_fresh {P : Program} {ops : Array Oper} {o : Oper} {a : Act} {w : World} {K : Act → World → Prop} {Q : Exit → Act → World → Prop} {E : Prop}
    (hgd : o.guard = none) (s x : Operand) (t : TypeId) (ho : o.op = .call { callee := .builtin .append, args := #[s, x], argTypes := #[t, t] })
    (base : Nat) (e : TypeId) (i : TypeInfo) (z : Value) (size bytes : Nat) (ht : P.underlying t = some (.slice e)) (hi : P.info? e = some i) (hz : i.zero = some z)
    (hsize : i.size = size) (hby : i.bytes = bytes) (hzs : z.cells.size = size) (hsz : 0 < size)
    (v : Value) (n : Nat) (xs : List Value) (hs : a.eval s = v) (hown : w.ownsRow base e size v n xs)
    (ad : Addr) (m c : Nat) (news : List Value) (hx : a.eval x = .slice (some ad) m c) (hl : news.length = m * size) (hnews : ∀ j u, news[j]? = some u → w.cell? (ad.add j) = some u) (h1 : ∀ u ∈ news, u.oneCell' = true)
    (h63 : n + m ≤ maxLen) (hbytes : (n + m) * bytes ≤ 140737488355328) (hbase : base ≤ w.heap.size)
    (h : ∀ v' w', w'.ownsRow base e size v' (n + m) (xs ++ news) → w.grownBy w' v.ownBlock → Fresh w v v' → K (a.put o.dst v') w') :
    if Region.wanted o (yielded ops a.tmps) = true then Oper.wp P o a w K Q else E := by
  have hw : Region.wanted o (yielded ops a.tmps) = true := by simp [Region.wanted, hgd]
  rw [if_pos hw]
  obtain ⟨v', w', hr, h2, h3, h4⟩ := append_fresh (P := P) w base t o.type e i z size bytes ht hi hz hsize hby hzs hsz v n xs hown ad m c news hl hnews h1 h63 hbytes hbase
  unfold Oper.wp execOp
  simp only [ho, resolve, invoke, builtin, Sem.run_bind, Sem.run_pure, Result.andThen_ok, List.map_toArray, List.map_cons, List.map_nil, hs, hx, hr]
  exact h v' w' h2 h3 h4
theorem infoS : (Tryd.prog.info? 9).map (fun i => (i.zero, i.size, i.bytes)) = some (some (.string ⟨#[]⟩), 1, 16) := by kernel_rfl
end Go.Proofs.YtcmlppknfbndaaaDoor
