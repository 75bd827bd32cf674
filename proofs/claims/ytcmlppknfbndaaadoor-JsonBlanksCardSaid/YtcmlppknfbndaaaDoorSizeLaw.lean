/-
  HOW MUCH A VALUE HOLDS, AS scantlingref06.Size COUNTS: plain. Conditions: each lemma's own.
-/
import Derived.Test.YtcmlppknfbndaaaDoorLaw3
import Derived.Lib.ItoaLen
namespace Go.Proofs.YtcmlppknfbndaaaDoor.Js
open Go

def sizeNames (most : Int) : Int → List (List UInt8) → Int
  | n, [] => n
  | n, s :: r => if n ≤ most then sizeNames most (n + 1 + s.length) r else n
mutual
def sizeV (most : Int) : Nat → V → Int
  | 0, _ => most + 1
  | d + 1, .mk _ _ t ks ns => sizeKids most d (sizeNames most (1 + t.length) ns) ks
def sizeKids (most : Int) : Nat → Int → List V → Int
  | _, n, [] => n
  | d, n, v :: r => if n ≤ most then sizeKids most d (n + sizeV most d v) r else n
end

mutual
/-- No text is longer than memory. -/
def Lim : V → Prop
  | .mk _ _ t ks ns => t.length ≤ 140737488355328 ∧ (∀ s ∈ ns, s.length ≤ 140737488355328) ∧ LimAll ks
def LimAll : List V → Prop
  | [] => True
  | v :: r => Lim v ∧ LimAll r
end
theorem LimAll.get : ∀ (ks : List V), LimAll ks → ∀ v ∈ ks, Lim v
  | [], _, v, hv => by simp at hv
  | u :: r, h, v, hv => by
    rcases List.mem_cons.1 hv with rfl | hv
    · exact h.1
    · exact LimAll.get r h.2 v hv

theorem sizeNames_le (most B : Int) : ∀ (ns : List (List UInt8)) (n : Int), (∀ s ∈ ns, (s.length : Int) ≤ B) → 0 ≤ n → n ≤ sizeNames most n ns ∧ (n ≤ most + 1 + B → sizeNames most n ns ≤ most + 1 + B)
  | [], n, _, _ => ⟨Int.le_refl _, fun h => h⟩
  | s :: r, n, h, h0 => by
    unfold sizeNames
    split
    · have hs := h s (by simp)
      have := sizeNames_le most B r (n + 1 + s.length) (fun x hx => h x (by simp [hx])) (by omega)
      exact ⟨by omega, fun _ => this.2 (by omega)⟩
    · exact ⟨Int.le_refl _, fun h => h⟩
mutual
theorem sizeV_le (most : Int) (hm : 0 ≤ most) : ∀ (d : Nat) (v : V), Lim v → 0 ≤ sizeV most d v ∧ sizeV most d v ≤ (most + 1) * (d + 1) + 140737488355328
  | 0, v, _ => by
    rw [sizeV]
    simp
    omega
  | d + 1, .mk k n t ks ns, h => by
    rw [sizeV]
    have h1 := sizeNames_le most 140737488355328 ns (1 + t.length) (fun s hs => by have := h.2.1 s hs; omega) (by omega)
    have h2 := h.1
    have h3 := sizeKids_le most hm d ks (sizeNames most (1 + t.length) ns) h.2.2 (by omega)
    have h4 := h1.2 (by omega)
    have e1 : (most + 1) * ((d + 1 : Nat) + 1 : Int) = (most + 1) * (d + 1) + (most + 1) := by
      rw [Int.mul_add]; simp
    have e0 : 0 ≤ (most + 1) * ((d : Int) + 1) := Int.mul_nonneg (by omega) (by omega)
    rw [e1]
    exact ⟨by omega, h3.2 (by omega)⟩
theorem sizeKids_le (most : Int) (hm : 0 ≤ most) : ∀ (d : Nat) (ks : List V) (n : Int), LimAll ks → 0 ≤ n → n ≤ sizeKids most d n ks ∧ (n ≤ (most + 1) * (d + 1) + (most + 1) + 140737488355328 → sizeKids most d n ks ≤ (most + 1) * (d + 1) + (most + 1) + 140737488355328)
  | d, [], n, _, _ => by rw [sizeKids]; exact ⟨Int.le_refl _, fun h => h⟩
  | d, v :: r, n, h, h0 => by
    rw [sizeKids]
    split
    · have h1 := sizeV_le most hm d v h.1
      have := sizeKids_le most hm d r (n + sizeV most d v) h.2 (by omega)
      exact ⟨by omega, fun _ => this.2 (by omega)⟩
    · exact ⟨Int.le_refl _, fun h => h⟩
end

theorem esc_six2 (t : List UInt8) : ((t.flatMap esc).length : Int) ≤ 6 * t.length := by
  induction t with
  | nil => simp
  | cons c t ih =>
    rw [List.flatMap_cons, List.length_append, List.length_cons]
    have := esc_six c
    omega
theorem quoted_six (t : List UInt8) : ((quoted t).length : Int) ≤ 6 * t.length + 2 := by
  have := esc_six2 t
  unfold quoted
  simp only [List.length_append, List.length_cons, List.length_nil]
  omega
/-- Names that were all counted. -/
theorem sizeNames_all (most : Int) : ∀ (ns : List (List UInt8)) (n : Int), sizeNames most n ns ≤ most → n ≤ most ∧ sizeNames most n ns = n + ((ns.map fun s => (s.length : Int) + 1).sum)
  | [], n, h => by
    unfold sizeNames at h ⊢
    exact ⟨h, by simp⟩
  | s :: r, n, h => by
    unfold sizeNames at h ⊢
    split at h
    · rename_i hn
      have := sizeNames_all most r _ h
      rw [if_pos hn]
      exact ⟨hn, by rw [this.2]; simp; omega⟩
    · exact absurd h (by assumption)
def namesSum (ns : List (List UInt8)) : Int := (ns.map fun s => (s.length : Int) + 1).sum
theorem namesSum_nonneg : ∀ ns : List (List UInt8), 0 ≤ namesSum ns
  | [] => by simp [namesSum]
  | s :: r => by have := namesSum_nonneg r; simp only [namesSum, List.map_cons, List.sum_cons] at this ⊢; omega
theorem sizeNames_ge (most : Int) : ∀ (ns : List (List UInt8)) (n : Int), n ≤ sizeNames most n ns
  | [], n => Int.le_refl _
  | s :: r, n => by
    unfold sizeNames
    split
    · have := sizeNames_ge most r (n + 1 + s.length)
      omega
    · exact Int.le_refl _
mutual
theorem sizeV_nonneg (most : Int) (hm : 0 ≤ most) : ∀ (d : Nat) (v : V), 0 ≤ sizeV most d v
  | 0, v => by rw [sizeV]; omega
  | d + 1, .mk k n t ks ns => by
    rw [sizeV]
    have h1 := sizeNames_ge most ns (1 + t.length)
    have h2 := kids_ge most hm d ks (sizeNames most (1 + t.length) ns)
    omega
theorem kids_ge (most : Int) (hm : 0 ≤ most) : ∀ (d : Nat) (ks : List V) (n : Int), n ≤ sizeKids most d n ks
  | d, [], n => by rw [sizeKids]; exact Int.le_refl _
  | d, v :: r, n => by
    rw [sizeKids]
    split
    · have h1 := kids_ge most hm d r (n + sizeV most d v)
      have h2 := sizeV_nonneg most hm d v
      omega
    · exact Int.le_refl _
end
mutual
/-- What is not vast is printed in few bytes. -/
theorem put_size (most : Int) (hm : 0 ≤ most) : ∀ (d : Nat) (v : V), Fits v → sizeV most d v ≤ most → ((put v).length : Int) + 4 ≤ 30 * sizeV most d v
  | 0, v, _, h => by rw [sizeV] at h; omega
  | d + 1, .mk k n t ks ns, hf, h => by
    rw [sizeV] at h ⊢
    have hn0 := kids_ge most hm d ks (sizeNames most (1 + t.length) ns)
    have h1 := sizeNames_all most ns (1 + t.length) (by omega)
    have hnn := namesSum_nonneg ns
    have e1 : sizeNames most (1 + t.length) ns = 1 + t.length + namesSum ns := h1.2
    have hk := putKids_size most hm d ks ns (sizeNames most (1 + t.length) ns) (by omega) hf.2.2.2.2 h
    rw [put]
    split
    · simp only [List.length_cons, List.length_nil]; omega
    · split
      · split <;> (simp only [List.length_cons, List.length_nil]; omega)
      · split
        · have := Lib.itoa_length_le n hf.1.1 hf.1.2
          omega
        · split
          · have := quoted_six t
            omega
          · split
            · have := hk true true
              simp only [List.length_append, List.length_cons, List.length_nil]
              omega
            · have := hk false true
              simp only [List.length_append, List.length_cons, List.length_nil]
              omega
theorem putKids_size (most : Int) (hm : 0 ≤ most) : ∀ (d : Nat) (ks : List V) (ns : List (List UInt8)) (n : Int), 0 ≤ n → FitsAll ks → sizeKids most d n ks ≤ most → ∀ (obj f : Bool), ((putKids obj f ks ns).length : Int) ≤ 30 * (sizeKids most d n ks - n) + 6 * namesSum ns
  | d, [], ns, n, _, _, _, obj, f => by
    rw [sizeKids, putKids]
    have := namesSum_nonneg ns
    simp only [List.length_nil]; omega
  | d, v :: r, ns, n, h0, hf, h, obj, f => by
    rw [sizeKids] at h ⊢
    by_cases hn : n ≤ most
    · rw [if_pos hn] at h ⊢
      have hge := kids_ge most hm d r (n + sizeV most d v)
      have hnn := sizeV_nonneg most hm d v
      have h1 := put_size most hm d v hf.1 (by have := hge; omega)
      have h2 := putKids_size most hm d r ns.tail (n + sizeV most d v) (by omega) hf.2 h obj false
      have hq := quoted_six (ns.headD [])
      have hs : (6 : Int) * (ns.headD []).length + 6 * namesSum ns.tail ≤ 6 * namesSum ns := by
        cases ns with
        | nil => simp [namesSum]
        | cons s q =>
          simp only [List.headD_cons, List.tail_cons, namesSum, List.map_cons, List.sum_cons]
          omega
      have hnt := namesSum_nonneg ns.tail
      rw [putKids]
      simp only [List.length_append]
      have e1 : (if f then ([] : List UInt8) else [44]).length ≤ 1 := by cases f <;> simp
      have e2 : ((if obj then quoted (ns.headD []) ++ [58] else ([] : List UInt8)).length : Int) ≤ 6 * (ns.headD []).length + 3 := by
        cases obj
        · simp only [Bool.false_eq_true, if_false, List.length_nil]; omega
        · simp only [if_true, List.length_append, List.length_cons, List.length_nil]; omega
      omega
    · rw [if_neg hn] at h
      omega
end
end Go.Proofs.YtcmlppknfbndaaaDoor.Js
