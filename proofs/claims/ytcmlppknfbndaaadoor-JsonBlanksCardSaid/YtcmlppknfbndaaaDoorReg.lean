/-
  A REGION THAT DRAWS ITS ORDER AND STORES INTO CELLS THAT IT ALSO READS: the loads may be taken first, for the first store 'k' waits for them.
  'C': what holds of the cells till 'k' has come up; 'D': what holds all along.
-/
import Derived.Test.YtcmlppknfbndaaaDoorNames
namespace Go.Proofs.YtcmlppknfbndaaaDoor
open Go

section
variable {P : Program} {ops : Array Oper} {Q : Exit → Act → World → Prop} {md : Region.Mode} {k : Nat} {C D : World → Prop}

def HeldL (k : Nat) (C D : World → Prop) (L : Array Bool) (w : World) : Prop := D w ∧ (L.getD k true = false → C w)

def wpAnyL (P : Program) (md : Region.Mode) (ops : Array Oper) (Q : Exit → Act → World → Prop) (k : Nat) (C D : World → Prop) : Nat → Array Bool → Act → World → Prop
  | 0, listed, a, w => Region.ready md ops listed = [] ∧ Q .normal a w
  | fuel + 1, listed, a, w =>
    (Region.ready md ops listed = [] → Q .normal a w) ∧
    ∀ i ∈ Region.ready md ops listed, wpOp P ops Q i (fun a' w' => HeldL k C D (listed.setIfInBounds i true) w' ∧ wpAnyL P md ops Q k C D fuel (listed.setIfInBounds i true) a' w') a w

theorem wpAny_of_L : ∀ (fuel : Nat) (listed : Array Bool) (a : Act) (w : World), wpAnyL P md ops Q k C D fuel listed a w → wpAny P md ops Q fuel listed a w
  | 0, _, _, _, h => h
  | fuel + 1, _, _, _, h => ⟨h.1, fun i hi => wpOp_mono (fun a' w' h' => wpAny_of_L fuel _ a' w' h'.2) (h.2 i hi)⟩

theorem held_put {L : Array Bool} {i : Nat} {w : World} (h : i ≠ k) : HeldL k C D (L.setIfInBounds i true) w → HeldL k C D L w := fun ⟨a, b⟩ =>
  ⟨a, fun h0 => b (by rw [getD_set_ne true h]; exact h0)⟩

theorem wpAnyL_first {i : Nat} {oi : Oper} {v : Value} {T : World → Prop} (J : Array Bool → Prop) (hi : ops[i]? = some oi) (hsel : ∀ (j : Nat) (o : Oper) cs b, ops[j]? = some o → o.op ≠ .select cs b)
    (hik : i ≠ k) (hQ : ∀ c a w, Q (.panic c) (a.put oi.dst v) w → Q (.panic c) a w)
    (hJs : ∀ L j, J L → i ∈ Region.ready md ops L → j ∈ Region.ready md ops L → j ≠ i → J (L.setIfInBounds j true))
    (hJT : ∀ L w, J L → HeldL k C D L w → T w) :
    ∀ (fuel : Nat) (listed : Array Bool) (a : Act) (w : World), J listed →
      (∀ j oj, ops[j]? = some oj → j ≠ i → listed.getD j true = false → (∀ e ∈ oj.after, Region.binds md e = true → e.on ≠ i) → oi.apart ops oj = true) →
      i ∈ Region.ready md ops listed → YieldsIf P ops T oi v a → HeldL k C D listed w →
      wpAnyL P md ops Q k C D fuel (listed.setIfInBounds i true) (a.put oi.dst v) w → wpAnyL P md ops Q k C D (fuel + 1) listed a w := by
  intro fuel
  have put' : ∀ {L : Array Bool} {w : World}, HeldL k C D L w → HeldL k C D (L.setIfInBounds i true) w := fun ⟨x, y⟩ => ⟨x, fun h0 => y (by rw [getD_set_ne true hik] at h0; exact h0)⟩
  induction fuel with
  | zero =>
    intro listed a w hJ _ hr hy hS H
    refine ⟨fun h => (by rw [h] at hr; cases hr), fun j hj => ?_⟩
    by_cases hji : j = i
    · subst hji; exact hy.wpOp hi (hJT _ _ hJ hS) ⟨put' hS, H⟩
    · have := ready_mono hj hji
      rw [H.1] at this
      cases this
  | succ fuel ih =>
    intro listed a w hJ hfree hr hy hS H
    refine ⟨fun h => (by rw [h] at hr; cases hr), fun j hj => ?_⟩
    by_cases hji : j = i
    · subst hji; exact hy.wpOp hi (hJT _ _ hJ hS) ⟨put' hS, H⟩
    · have h1 := H.2 j (ready_mono hj hji)
      have hJ' := hJs _ j hJ hr hj hji
      obtain ⟨hjun, oj, hoj, hall⟩ := mem_ready.1 hj
      have hnot : ∀ e ∈ oj.after, Region.binds md e = true → e.on ≠ i := fun e he hb heq => by
        have h1 := hall e he hb
        have h0 := (mem_ready.1 hr).1
        rw [heq] at h1
        rcases Nat.lt_or_ge i listed.size with h' | h'
        · simp [h'] at h0 h1; rw [h0] at h1; cases h1
        · simp [Array.getElem?_eq_none h'] at h1
      have h2 := wpOp_putIf hoj (hfree j oj hoj hji hjun hnot) (fun cs b => hsel i oi cs b hi) (fun cs b => hsel j oj cs b hoj) hQ hy h1
      have hfree' : ∀ k ok, ops[k]? = some ok → k ≠ i → (listed.setIfInBounds j true).getD k true = false →
          (∀ e ∈ ok.after, Region.binds md e = true → e.on ≠ i) → oi.apart ops ok = true := fun k ok hk hki hun hno => by
        refine hfree k ok hk hki ?_ hno
        by_cases hjk : j = k
        · subst hjk; exact hjun
        · rw [getD_set_ne true hjk] at hun; exact hun
      refine wpOp_mono (fun a' w' h3 => ?_) h2
      rw [Array.setIfInBounds_comm _ _ (Ne.symm hji)] at h3
      have hS' := held_put hik h3.2.1
      exact ⟨hS', ih (listed.setIfInBounds j true) a' w' hJ' hfree' (ready_mono hr (Ne.symm hji)) h3.1 hS' h3.2.2⟩

/-- Take an operation first that asks nothing of the world but 'D'. -/
theorem wpAnyL_take {i : Nat} {oi : Oper} {v : Value} {fuel : Nat} {listed : Array Bool} {a : Act} {w : World} (hi : ops[i]? = some oi)
    (hs : Region.noSelect ops = true) (hf : Region.free md ops listed i = true) (hr : (Region.ready md ops listed).contains i = true) (hik : (i != k) = true)
    (hQ : ∀ c a w, Q (.panic c) (a.put oi.dst v) w → Q (.panic c) a w) (hy : YieldsIf P ops D oi v a) (hS : HeldL k C D listed w)
    (h : wpAnyL P md ops Q k C D fuel (listed.setIfInBounds i true) (a.put oi.dst v) w) : wpAnyL P md ops Q k C D (fuel + 1) listed a w :=
  wpAnyL_first (T := D) (fun _ => True) hi (Region.noSelect_spec hs) (by simpa using hik) hQ (fun _ _ _ _ _ _ => trivial) (fun _ _ _ h => h.1) fuel listed a w trivial (Region.free_spec hi hf) (by simpa using hr) hy hS h

/-- Does operation 'k' wait for operation 'i'? -/
def waits (md : Region.Mode) (ops : Array Oper) (k i : Nat) : Bool := match ops[k]? with
  | some o => o.after.any fun e => Region.binds md e && e.on == i
  | none => false
theorem unlisted_on {i j : Nat} {L : Array Bool} (hr : i ∈ Region.ready md ops L) (hj : j ∈ Region.ready md ops L) (hw : waits md ops j i = true) : False := by
  obtain ⟨_, oj, hoj, hall⟩ := mem_ready.1 hj
  simp only [waits, hoj, Array.any_eq_true] at hw
  obtain ⟨n, hn, he⟩ := hw
  simp only [Bool.and_eq_true, beq_iff_eq] at he
  have h1 := hall _ (Array.getElem_mem hn) he.1
  have h0 := (mem_ready.1 hr).1
  rw [he.2] at h1
  rcases Nat.lt_or_ge i L.size with h' | h'
  · simp [h'] at h0 h1; rw [h0] at h1; cases h1
  · simp [Array.getElem?_eq_none h'] at h1

/-- Take a load first of a cell that 'k' or a later store writes: 'k' waits for it, and has not come up. -/
theorem wpAnyL_takeC {i : Nat} {oi : Oper} {v : Value} {fuel : Nat} {listed : Array Bool} {a : Act} {w : World} (hi : ops[i]? = some oi)
    (hs : Region.noSelect ops = true) (hf : Region.free md ops listed i = true) (hr : (Region.ready md ops listed).contains i = true) (hik : (i != k) = true)
    (hw : waits md ops k i = true) (hu : listed.getD k true = false)
    (hQ : ∀ c a w, Q (.panic c) (a.put oi.dst v) w → Q (.panic c) a w) (hy : YieldsIf P ops (fun w => C w ∧ D w) oi v a) (hS : HeldL k C D listed w)
    (h : wpAnyL P md ops Q k C D fuel (listed.setIfInBounds i true) (a.put oi.dst v) w) : wpAnyL P md ops Q k C D (fuel + 1) listed a w :=
  wpAnyL_first (T := fun w => C w ∧ D w) (fun L => L.getD k true = false) hi (Region.noSelect_spec hs) (by simpa using hik) hQ
    (fun L j hJ hri hrj hji => by
      by_cases hjk : j = k
      · subst hjk; exact (unlisted_on hri hrj hw).elim
      · rw [getD_set_ne true hjk]; exact hJ)
    (fun L w hJ h => ⟨h.2 hJ, h.1⟩) fuel listed a w hu (Region.free_spec hi hf) (by simpa using hr) hy hS h

theorem wpAnyL_done {listed : Array Bool} {a : Act} {w : World} (hr : Region.ready md ops listed = []) (h : Q .normal a w) : ∀ fuel, wpAnyL P md ops Q k C D fuel listed a w
  | 0 => ⟨hr, h⟩
  | _ + 1 => ⟨fun _ => h, by rw [hr]; simp⟩

def AllReadyL (P : Program) (md : Region.Mode) (ops : Array Oper) (Q : Exit → Act → World → Prop) (k : Nat) (C D : World → Prop) (fuel : Nat) (listed : Array Bool) (a : Act) (w : World) (rs : List Nat) : Prop :=
  ∀ i ∈ rs, wpOp P ops Q i (fun a' w' => HeldL k C D (listed.setIfInBounds i true) w' ∧ wpAnyL P md ops Q k C D fuel (listed.setIfInBounds i true) a' w') a w
theorem AllReadyL.nil {fuel : Nat} {listed : Array Bool} {a : Act} {w : World} : AllReadyL P md ops Q k C D fuel listed a w [] := fun _ h => by cases h
/-- Till 'k' has come up. -/
theorem AllReadyL.early {fuel : Nat} {listed : Array Bool} {a : Act} {w : World} {i : Nat} {o : Oper} {rs : List Nat} (ho : ops[i]? = some o)
    (h : ∀ K' : Act → World → Prop, Shut (∀ a w, C w ∧ D w → (HeldL k C D (listed.setIfInBounds i true) w → wpAnyL P md ops Q k C D fuel (listed.setIfInBounds i true) a w) → K' a w) → if Region.wanted o (yielded ops a.tmps) = true then Oper.wp P o a w K' Q else K' (a.put o.dst undef) w)
    (hs : AllReadyL P md ops Q k C D fuel listed a w rs) : AllReadyL P md ops Q k C D fuel listed a w (i :: rs) := fun j hj => by
  rcases List.mem_cons.1 hj with rfl | hj
  · exact wpOp_step ho (fun K' hK => h K' (fun a w hS hW => hK a w ⟨⟨hS.2, fun _ => hS.1⟩, hW ⟨hS.2, fun _ => hS.1⟩⟩))
  · exact hs j hj
/-- From 'k' on. -/
theorem AllReadyL.late {fuel : Nat} {listed : Array Bool} {a : Act} {w : World} {i : Nat} {o : Oper} {rs : List Nat} (ho : ops[i]? = some o) (hu : (listed.setIfInBounds i true).getD k true = true)
    (h : ∀ K' : Act → World → Prop, Shut (∀ a w, D w → (HeldL k C D (listed.setIfInBounds i true) w → wpAnyL P md ops Q k C D fuel (listed.setIfInBounds i true) a w) → K' a w) → if Region.wanted o (yielded ops a.tmps) = true then Oper.wp P o a w K' Q else K' (a.put o.dst undef) w)
    (hs : AllReadyL P md ops Q k C D fuel listed a w rs) : AllReadyL P md ops Q k C D fuel listed a w (i :: rs) := fun j hj => by
  have hh : ∀ w, D w → HeldL k C D (listed.setIfInBounds i true) w := fun w hd => ⟨hd, fun h0 => by rw [hu] at h0; cases h0⟩
  rcases List.mem_cons.1 hj with rfl | hj
  · exact wpOp_step ho (fun K' hK => h K' (fun a w hS hW => hK a w ⟨hh w hS, hW (hh w hS)⟩))
  · exact hs j hj
theorem wpAnyL_ready {rs : List Nat} {fuel : Nat} {listed : Array Bool} {a : Act} {w : World} (hr : Region.ready md ops listed = rs) (hne : rs ≠ [])
    (h : AllReadyL P md ops Q k C D fuel listed a w rs) : wpAnyL P md ops Q k C D (fuel + 1) listed a w :=
  ⟨fun h0 => absurd (hr ▸ h0) hne, hr ▸ h⟩
theorem wp_region_L {id : Nat} {a : Act} {w : World} (hm : P.follows .mixedOrders = true) (hS : C w.drew ∧ D w.drew)
    (h : HeldL k C D (Array.replicate ops.size false) w.drew → wpAnyL P .any ops Q k C D ops.size (Array.replicate ops.size false) a w.drew) : (Code.region id ops true).wp P Q a w :=
  wp_region_any hm (wpAny_of_L _ _ _ _ (h ⟨hS.2, fun _ => hS.1⟩))
theorem HeldL.put {L : Array Bool} {i : Nat} {w : World} (h : HeldL k C D L w) (hi : (i != k) = true) : HeldL k C D (L.setIfInBounds i true) w := by
  have hi : i ≠ k := by simpa using hi
  exact ⟨h.1, fun h0 => h.2 (by rw [getD_set_ne true hi] at h0; exact h0)⟩
end

end Go.Proofs.YtcmlppknfbndaaaDoor
