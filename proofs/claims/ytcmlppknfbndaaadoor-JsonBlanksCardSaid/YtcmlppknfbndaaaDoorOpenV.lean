/-
  A value of package api that came in, opened. Conditions: each lemma's own.
-/
import Derived.Test.YtcmlppknfbndaaaDoorLift2
import Derived.Test.YtcmlppknfbndaaaDoorSize
namespace Go.Proofs.YtcmlppknfbndaaaDoor
open Go.RowKit Js Go.ChangeShapes Go.WideShapes Go.ChangeAt

theorem FitAll.snoc {v : V} (hv : FitV v) : ∀ {ks : List V}, FitAll ks → FitAll (ks ++ [v])
  | [], _ => ⟨hv, trivial⟩
  | _ :: _, h => ⟨h.1, FitAll.snoc hv h.2⟩
theorem LimAll.snoc {v : V} (hv : Lim v) : ∀ {ks : List V}, LimAll ks → LimAll (ks ++ [v])
  | [], _ => ⟨hv, trivial⟩
  | _ :: _, h => ⟨h.1, LimAll.snoc hv h.2⟩
theorem mem_weightsAll {H : Type} {P : Program} {e : TypeId} {d : DataW H} {n : Nat} (hn : n ∈ d.weights P e) : ∀ {l : List (DataW H)}, d ∈ l → n ∈ DataW.weightsAll P e l
  | [], h => by simp at h
  | u :: r, h => by
    rw [DataW.weightsAll, List.mem_append]
    rcases List.mem_cons.1 h with rfl | h
    · exact .inl hn
    · exact .inr (mem_weightsAll hn h)
theorem add_off (g o i j : Nat) : ((⟨g, o, none⟩ : Addr).add i).add j = ⟨g, o + i + j, none⟩ := by rw [Addr.add_lit, Addr.add_lit]
/-- Kids, one behind the other. -/
theorem kids_build {W : World} {ok : Nat → Prop} {a : Addr} {len : Nat} (h : ∀ i, i < len → ∃ v cs, W.cells? 0 (a.add (i * 5)) 5 = some cs ∧ VAt W ok v cs ∧ FitV v ∧ Lim v) :
    ∀ m, m ≤ len → ∃ ks css, ks.length = m ∧ VAll W ok ks css ∧ FitAll ks ∧ LimAll ks ∧ ∀ i, i < m → W.cells? 0 (a.add (i * 5)) 5 = css[i]?
  | 0, _ => ⟨[], [], rfl, rfl, trivial, trivial, fun i hi => absurd hi (Nat.not_lt_zero _)⟩
  | m + 1, hm => by
    obtain ⟨ks, css, h1, h2, h3, h4, h5⟩ := kids_build h m (by omega)
    obtain ⟨v, cs, g1, g2, g3, g4⟩ := h m (by omega)
    have hl := h2.lengths
    refine ⟨ks ++ [v], css ++ [cs], by simp [h1], VAll.snoc g2 h2, FitAll.snoc g3 h3, LimAll.snoc g4 h4, fun i hi => ?_⟩
    by_cases hlt : i < m
    · rw [h5 i hlt, List.getElem?_append_left (by omega)]
    · obtain rfl : i = m := by omega
      rw [g1, List.getElem?_append_right (by omega)]
      simp [hl.1, h1]
theorem cells_flat {w : World} {g : Nat} : ∀ (css : List (List Value)) (o : Nat), (∀ i cs, css[i]? = some cs → cs.length = 5 ∧ ∀ j u, cs[j]? = some u → w.cell? ⟨g, o + i * 5 + j, none⟩ = some u) → CellsAt w g o css.flatten
  | [], o, _ => CellsAt.nil w g o
  | cs :: r, o, h => fun j u hj => by
    have h0 := h 0 cs rfl
    rw [List.flatten_cons] at hj
    by_cases hlt : j < cs.length
    · rw [List.getElem?_append_left hlt] at hj
      have := h0.2 j u hj
      rwa [Nat.zero_mul, Nat.add_zero] at this
    · rw [List.getElem?_append_right (by omega), h0.1] at hj
      have := cells_flat r (o + 5) (fun i cs' hi => by
        have := h (i + 1) cs' (by simpa using hi)
        refine ⟨this.1, fun j u hj => ?_⟩
        have := this.2 j u hj
        rw [show o + 5 + i * 5 + j = o + (i + 1) * 5 + j by omega]
        exact this) (j - 5) u hj
      rw [show o + j = o + 5 + (j - 5) by omega]
      exact this
/-- Texts, one behind the other. -/
theorem names_build {W : World} {a : Addr} {len : Nat} (h : ∀ i, i < len → ∃ s : List UInt8, W.cell? (a.add i) = some (strv s) ∧ s.length ≤ 140737488355328) :
    ∀ m, m ≤ len → ∃ ns : List (List UInt8), ns.length = m ∧ (∀ s ∈ ns, s.length ≤ 140737488355328) ∧ ∀ i, i < m → ∀ s, ns[i]? = some s → W.cell? (a.add i) = some (strv s)
  | 0, _ => ⟨[], rfl, by simp, fun i hi => absurd hi (Nat.not_lt_zero _)⟩
  | m + 1, hm => by
    obtain ⟨ns, h1, h2, h3⟩ := names_build h m (by omega)
    obtain ⟨s, g1, g2⟩ := h m (by omega)
    refine ⟨ns ++ [s], by simp [h1], fun x hx => ?_, fun i hi x hx => ?_⟩
    · rcases List.mem_append.1 hx with hx | hx
      · exact h2 x hx
      · rw [List.mem_singleton] at hx; rw [hx]; exact g2
    · by_cases hlt : i < m
      · rw [List.getElem?_append_left (by omega)] at hx
        exact h3 i hlt x hx
      · obtain rfl : i = m := by omega
        rw [List.getElem?_append_right (by omega)] at hx
        simp [h1] at hx
        rw [← hx]; exact g1

section
variable {H : Type} {enc : TypeId × Value → H}
theorem cellsV : Tryd.prog.cellsOf 27 = 5 := by kernel_rfl
theorem cellsS : Tryd.prog.cellsOf 9 = 1 := by kernel_rfl
theorem cellsVs : Tryd.prog.cellsOf 24 = 1 := by kernel_rfl
theorem cellsSs : Tryd.prog.cellsOf 25 = 1 := by kernel_rfl
theorem cells64 : Tryd.prog.cellsOf 2 = 1 := by kernel_rfl
theorem bytesV : Tryd.prog.bytesOf 27 = 80 := by kernel_rfl
theorem bytesS : Tryd.prog.bytesOf 9 = 16 := by kernel_rfl
theorem reach_eq : reachBytes = 140737488351232 := by decide

/-- A slice of texts that came in. -/
theorem open_names {W : World} {fuel : Nat} {c : Value} {x : DataW H × List MemPlace} (h : DataW.trod enc Tryd.prog W 0 (fun _ => true) true fuel 25 [c] = some x) (hw : ∀ n ∈ x.1.weights Tryd.prog 25, n ≤ reachBytes) :
    ∃ ns : List (List UInt8), RowAt W (fun k => k < W.heap.size) c ns.length (strs ns) ∧ ns.length < 4611686018427387904 ∧ ∀ s ∈ ns, s.length ≤ 140737488355328 := by
  rcases DataW.trod_slice Tryd.underlying25 h with ⟨hc, _⟩ | ⟨a, len, cap, elems, rest, n, rfl, hc, rfl, hb, hl, hm, hlen, hel, hsp, _⟩
  · injection hc with hc
    subst hc
    exact ⟨[], RowAt.nil _ _, by simp, by simp⟩
  · injection hc with hc
    subst hc
    rw [cellsS] at hel
    simp only [DataW.weights, Tryd.underlying25, List.length_map, bytesS] at hw
    have hw0 := hw _ (List.mem_cons_self ..)
    rw [reach_eq] at hw0
    have each : ∀ i, i < len → ∃ s : List UInt8, W.cell? (a.add i) = some (strv s) ∧ s.length ≤ 140737488355328 := fun i hi => by
      have h1 := hel i hi
      rw [List.getElem?_eq_getElem (by omega), Option.bind_eq_some_iff] at h1
      obtain ⟨cs', hcs, hy⟩ := h1
      obtain ⟨s, e1, e2, e3⟩ := DataW.trod_string Tryd.underlying9 hy
      subst e1
      have hcell := cell_of_cells?_one hcs
      rw [Nat.mul_one] at hcell
      refine ⟨s.data.toList, by rw [hcell]; simp [strv], ?_⟩
      have hmem : (elems[i]'(by omega)).1 ∈ elems.map (·.1) := List.mem_map.2 ⟨_, List.getElem_mem _, rfl⟩
      have hw1 := hw s.data.toList.length (List.mem_cons_of_mem _ (List.mem_append_left _ (mem_weightsAll (by rw [e2]; simp [DataW.weights]) hmem)))
      rw [reach_eq] at hw1
      omega
    obtain ⟨ns, h1, h2, h3⟩ := names_build each len (Nat.le_refl _)
    unfold maxLen at hm
    refine ⟨ns, ⟨_, cap, by rw [h1], by omega, by omega, fun hne => ?_⟩, by omega, h2⟩
    obtain ⟨ab, ao, spot⟩ := a
    have h0 := each 0 (by omega)
    obtain ⟨s0, hs0, _⟩ := h0
    have hspot : spot = none := by simpa [Addr.add] using World.cell?_spot hs0
    subst hspot
    have hlt : ab < W.heap.size := World.block_lt_of_cell? W ⟨ab, ao, none⟩ (by rw [Addr.add_lit, Nat.add_zero] at hs0; exact hs0)
    refine ⟨ab, ao, rfl, hlt, fun j u hj => ?_⟩
    simp only [strs, List.getElem?_map, Option.map_eq_some_iff] at hj
    obtain ⟨s, hs, rfl⟩ := hj
    have hj' : j < len := by have := (List.getElem?_eq_some_iff.1 hs).1; omega
    have := h3 j hj' s hs
    rw [Addr.add_lit] at this
    exact this

set_option maxRecDepth 100000 in
set_option maxHeartbeats 1000000 in
/-- A value that came in. -/
theorem open_value {W : World} : ∀ (fuel : Nat) (cs : List Value) (x : DataW H × List MemPlace), DataW.trod enc Tryd.prog W 0 (fun _ => true) true fuel 27 cs = some x → (∀ n ∈ x.1.weights Tryd.prog 27, n ≤ reachBytes) →
    ∃ v, VAt W (fun k => k < W.heap.size) v cs ∧ FitV v ∧ Lim v := by
  intro fuel
  induction fuel using Nat.strongRecOn with
  | _ fuel ih =>
    intro cs x h hw
    obtain ⟨xs, n, rfl, rfl, hl, hxl, hf⟩ := DataW.trod_struct Tryd.underlying27 h
    rw [cellsV] at hl
    match cs, hl with
    | [c0, c1, c2, c3, c4], _ =>
    match xs, hxl with
    | [x0, x1, x2, x3, x4], _ =>
      have f0 := hf 0 _ rfl
      have f1 := hf 1 _ rfl
      have f2 := hf 2 _ rfl
      have f3 := hf 3 _ rfl
      have f4 := hf 4 _ rfl
      change DataW.trod enc Tryd.prog W 0 (fun _ => true) true n 5 (([c0, c1, c2, c3, c4].drop 0).take (Tryd.prog.cellsOf 5)) = some x0 at f0
      rw [cells5] at f0
      change DataW.trod enc Tryd.prog W 0 (fun _ => true) true n 5 [c0] = some x0 at f0
      change DataW.trod enc Tryd.prog W 0 (fun _ => true) true n 2 (([c0, c1, c2, c3, c4].drop 1).take (Tryd.prog.cellsOf 2)) = some x1 at f1
      rw [cells64] at f1
      change DataW.trod enc Tryd.prog W 0 (fun _ => true) true n 2 [c1] = some x1 at f1
      change DataW.trod enc Tryd.prog W 0 (fun _ => true) true n 9 (([c0, c1, c2, c3, c4].drop 2).take (Tryd.prog.cellsOf 9)) = some x2 at f2
      rw [cellsS] at f2
      change DataW.trod enc Tryd.prog W 0 (fun _ => true) true n 9 [c2] = some x2 at f2
      change DataW.trod enc Tryd.prog W 0 (fun _ => true) true n 24 (([c0, c1, c2, c3, c4].drop 3).take (Tryd.prog.cellsOf 24)) = some x3 at f3
      rw [cellsVs] at f3
      change DataW.trod enc Tryd.prog W 0 (fun _ => true) true n 24 [c3] = some x3 at f3
      change DataW.trod enc Tryd.prog W 0 (fun _ => true) true n 25 (([c0, c1, c2, c3, c4].drop 4).take (Tryd.prog.cellsOf 25)) = some x4 at f4
      rw [cellsSs] at f4
      change DataW.trod enc Tryd.prog W 0 (fun _ => true) true n 25 [c4] = some x4 at f4
      obtain ⟨k, e0, rfl, _⟩ := DataW.trod_int Tryd.underlying5 f0
      obtain ⟨z, e1, rfl, wz⟩ := DataW.trod_int Tryd.underlying2 f1
      obtain ⟨s, e2, rfl, hs⟩ := DataW.trod_string Tryd.underlying9 f2
      injection e0 with e0
      injection e1 with e1
      injection e2 with e2
      subst e0 e1 e2
      have hz : -9223372036854775808 ≤ z ∧ z ≤ 9223372036854775807 := by simpa [Lit.wf, IntKind.min, IntKind.max, IntKind.signed, IntKind.bits] using wz
      simp only [DataW.weights, Tryd.underlying27, List.map_cons, List.map_nil, DataW.weightsEach, List.mem_append, List.append_nil] at hw
      have hws := hw s.data.toList.length (.inr (.inr (.inl (by simp))))
      rw [reach_eq] at hws
      obtain ⟨ns, hnr, hnl, hns⟩ := open_names f4 (fun m hm => hw m (by simp only [List.not_mem_nil, false_or]; simp [hm]))
      have hkw : ∀ m ∈ x3.1.weights Tryd.prog 24, m ≤ reachBytes := fun m hm => hw m (by simp [hm])
      have hst : Value.string s = strv s.data.toList := by simp [strv]
      rcases DataW.trod_slice Tryd.underlying24 f3 with ⟨hc, _⟩ | ⟨a, len, cap, elems, rest, m, rfl, hc, rfl, hb, hll, hm, hlen, hel, hsp, _⟩
      · injection hc with hc
        subst hc
        refine ⟨.mk k z s.data.toList [] ns, ⟨_, _, [], by rw [hst], rfl, RowAt.nil _ _, hnr⟩, ⟨hz, by omega, hnl, fun x hx => by have := hns x hx; omega, trivial⟩, ⟨by omega, hns, trivial⟩⟩
      · injection hc with hc
        subst hc
        rw [cellsV] at hel
        simp only [DataW.weights, Tryd.underlying24, List.length_map, bytesV] at hkw
        have hw0 := hkw _ (List.mem_cons_self ..)
        rw [reach_eq] at hw0
        have each : ∀ i, i < len → ∃ v cs, W.cells? 0 (a.add (i * 5)) 5 = some cs ∧ VAt W (fun k => k < W.heap.size) v cs ∧ FitV v ∧ Lim v := fun i hi => by
          have h1 := hel i hi
          rw [List.getElem?_eq_getElem (by omega), Option.bind_eq_some_iff] at h1
          obtain ⟨cs', hcs, hy⟩ := h1
          have hmem : (elems[i]'(by omega)).1 ∈ elems.map (·.1) := List.mem_map.2 ⟨_, List.getElem_mem _, rfl⟩
          obtain ⟨v, hv⟩ := ih m (by omega) cs' _ hy (fun n hn => hkw n (List.mem_cons_of_mem _ (List.mem_append_left _ (mem_weightsAll hn hmem))))
          exact ⟨v, cs', hcs, hv⟩
        obtain ⟨ks, css, h1, h2, h3, h4, h5⟩ := kids_build each len (Nat.le_refl _)
        unfold maxLen at hm
        have hlc := h2.lengths
        refine ⟨.mk k z s.data.toList ks ns, ⟨_, _, css, by rw [hst], h2, ⟨_, cap, by rw [h1], by omega, by omega, fun hne => ?_⟩, hnr⟩, ⟨hz, by omega, hnl, fun x hx => by have := hns x hx; omega, h3⟩, ⟨by omega, hns, h4⟩⟩
        obtain ⟨ab, ao, spot⟩ := a
        obtain ⟨_, cs0, hcs0, _⟩ := each 0 (by omega)
        obtain ⟨_, hcl0, hat0⟩ := World.cells?_some hcs0
        have hc0 := hat0 0 (by omega)
        rw [List.getElem?_eq_getElem (by omega)] at hc0
        have hspot : spot = none := by simpa [Addr.add] using World.cell?_spot hc0
        subst hspot
        have hlt : ab < W.heap.size := World.block_lt_of_cell? W ⟨ab, ao, none⟩ (by rw [add_off] at hc0; simpa using hc0)
        refine ⟨ab, ao, rfl, hlt, cells_flat css ao fun i cs hi => ?_⟩
        have hil : i < len := by have := (List.getElem?_eq_some_iff.1 hi).1; omega
        have hci := h5 i hil
        rw [hi] at hci
        obtain ⟨_, hcl, hat⟩ := World.cells?_some hci
        refine ⟨hcl, fun j u hj => ?_⟩
        have hj5 : j < 5 := by have := (List.getElem?_eq_some_iff.1 hj).1; omega
        have := hat j hj5
        rw [add_off, hj] at this
        exact this
end
end Go.Proofs.YtcmlppknfbndaaaDoor
