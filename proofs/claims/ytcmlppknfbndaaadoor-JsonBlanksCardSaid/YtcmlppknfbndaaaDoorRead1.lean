/-
  THE SMALL STEPS OF json's READER: need, is, unit. Conditions: each contract's own.
-/
import Derived.Test.YtcmlppknfbndaaaDoorMem
import Derived.Test.YtcmlppknfbndaaaDoorSpec
import Derived.Test.YtcmlppknfbndaaaDoorLay
namespace Go.Proofs.YtcmlppknfbndaaaDoor
open Go.RowKit

/-- What a reader's error looks like on its way up. -/
def Panics (c : Int) (e : Ending) : Prop := e = .panicked [{ v := .iface 28 (.int .i64 c), recovered := false }]

theorem need_t (w : World) : Calls Tryd.prog 18 #[.bool true] w fun e w' => e = .returned (.tuple #[]) ∧ w = w' := by
  go_enter Tryd.func18, Tryd.ntmps18
  go_wp2
  go_end0
  exact ⟨rfl, rfl⟩
theorem need_f (w : World) : Calls Tryd.prog 18 #[.bool false] w fun e w' => Panics 5 e ∧ w = w' := by
  go_enter Tryd.func18, Tryd.ntmps18
  go_wp2
  exact ⟨rfl, rfl, rfl⟩

/-- Does a byte come first? -/
def isHead (l : List UInt8) (k : Int) : Bool := match l with | [] => false | d :: _ => (d.toNat : Int) == k

theorem is_f (r b : Nat) (l : List UInt8) (k : Int) (w : World) (h : Rd w r b l) (hk : isHead l k = false) :
    Calls Tryd.prog 27 #[.pointer (some ⟨r, 0, none⟩), .int .u8 k] w fun e w' => e = .returned (.bool false) ∧ w = w' := by
  obtain ⟨v, h1, h2, h3, h4⟩ := h
  cases l with
  | nil =>
    obtain ⟨p, c, rfl, hc⟩ := h4.nil
    clear h4
    go_enter Tryd.func27, Tryd.ntmps27
    go_wp2
    go_ret
    exact ⟨rfl, rfl⟩
  | cons d l =>
    obtain ⟨o, c, rfl, h5, h6, h7⟩ := h4.cons (by simp)
    have h8 := h7.head
    have hk' : ((d.toNat : Int) == k) = false := hk
    simp only [List.length_cons] at h1 h5
    clear h4 h7 hk
    go_enter Tryd.func27, Tryd.ntmps27
    go_wp2
    go_ret
    exact ⟨rfl, rfl⟩

theorem is_t (r b : Nat) (l : List UInt8) (k : Int) (w : World) (h : Rd w r b l) (hk : isHead l k = true) :
    Calls Tryd.prog 27 #[.pointer (some ⟨r, 0, none⟩), .int .u8 k] w fun e w' => e = .returned (.bool true) ∧ Rd w' r b l.tail ∧ Kept w.heap.size r w w' := by
  have h0 := h
  obtain ⟨v, h1, h2, h3, h4⟩ := h
  cases l with
  | nil => simp [isHead] at hk
  | cons d l =>
    obtain ⟨o, c, rfl, h5, h6, h7⟩ := h4.cons (by simp)
    have h8 := h7.head
    have hk' : ((d.toNat : Int) == k) = true := hk
    have fin : ∀ p, (1 < c → p = some ⟨b, o + 1, none⟩) → Slice w b (.slice p l.length (c - 1)) l := fun p hp => by
      have := Slice.from h7 h5 h6 1 (by simp) p hp
      simpa using this
    have F := Lib.hid fin
    simp only [List.length_cons] at h1 h5
    clear h4 h7 hk fin
    by_cases hc : c = 1
    · obtain rfl : l = [] := by cases l with
        | nil => rfl
        | cons _ _ => simp only [List.length_cons] at h5; omega
      subst hc
      go_enter Tryd.func27, Tryd.ntmps27
      go_wp2
      go_ret
      exact ⟨rfl, h0.store (F.out _ (by omega)), Kept.store _ _ _ _⟩
    · have hc1 : 1 < c := by omega
      go_enter Tryd.func27, Tryd.ntmps27
      go_wp2
      go_ret
      exact ⟨rfl, h0.store (F.out _ (fun _ => rfl)), Kept.store _ _ _ _⟩
end Go.Proofs.YtcmlppknfbndaaaDoor
