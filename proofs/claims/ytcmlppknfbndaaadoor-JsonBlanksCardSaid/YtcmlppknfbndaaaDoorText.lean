/-
  json's reader: text, and what the library's tables hold. Conditions: each contract's own.
-/
import Derived.Test.YtcmlppknfbndaaaDoorText0
namespace Go.Proofs.YtcmlppknfbndaaaDoor
open Go.RowKit Js

/-- Above all package-level variables that are read. -/
def NG : Nat := max (max 0 1) (max (max 2 3) 4) + 1
theorem NG_eq : NG = max (max 0 1) (max (max 2 3) 4) + 1 := rfl
/-- What the package-level variables hold that are read. -/
structure Env (w : World) : Prop where
  utf8 : Lib.Utf8Tabs 0 1 w
  syn : ∃ ev, w.cell? ⟨2, 0, none⟩ = some ev ∧ (ev = .nilIface ∨ ∃ te pe, ev = .iface te pe)
  rng : ∃ ev, w.cell? ⟨3, 0, none⟩ = some ev ∧ (ev = .nilIface ∨ ∃ te pe, ev = .iface te pe)
  pow : Lib.TabIs Tryd.prog w "internal/strconv.uint64pow10" .u64 Lib.pow10Tab
theorem Env.same {w w' : World} (h : Env w) (hs : ∀ k, k < NG → w'.heap[k]? = w.heap[k]?) : Env w' := by
  have hc : ∀ b o, b < NG → w'.cell? ⟨b, o, none⟩ = w.cell? ⟨b, o, none⟩ := fun b o hb => World.cell?_of_block (w := w) (hs b hb)
  have hn := NG_eq
  refine ⟨⟨fun c hc' => ?_, fun i hi => ⟨?_, ?_⟩⟩, ?_, ?_, ?_⟩
  · rw [hc _ _ (by omega)]; exact h.utf8.1 c hc'
  · rw [hc _ _ (by omega)]; exact (h.utf8.2 i hi).1
  · rw [hc _ _ (by omega)]; exact (h.utf8.2 i hi).2
  · rw [hc _ _ (by omega)]; exact h.syn
  · rw [hc _ _ (by omega)]; exact h.rng
  · have hg : Tryd.prog.globalNamed "internal/strconv.uint64pow10" = some 4 := by kernel_rfl
    have := h.pow
    unfold Lib.TabIs World.var? at this ⊢
    simp only [hg, Option.bind_some] at this ⊢
    rw [hs _ (by omega)]
    exact this
theorem Env.size {w : World} (h : Env w) : NG ≤ w.heap.size := by
  have hn := NG_eq
  have h0 := cell_lt (h.utf8.1 0 (by decide))
  have h1 := cell_lt (h.utf8.2 0 (by decide)).1
  obtain ⟨_, h2, _⟩ := h.syn
  obtain ⟨_, h3, _⟩ := h.rng
  have h2 := cell_lt h2
  have h3 := cell_lt h3
  have hg : Tryd.prog.globalNamed "internal/strconv.uint64pow10" = some 4 := by kernel_rfl
  have h4 := h.pow.cell hg 0 (by decide)
  have h4 := cell_lt h4
  omega
theorem Env.kept {w w' : World} {r : Nat} (h : Env w) (k : Kept w.heap.size r w w') (hr : NG ≤ r) : Env w' :=
  h.same fun i hi => k.block i (by have := h.size; omega) (by omega)
theorem Env.below {w w' : World} {B : Nat} (h : Env w) (k : Below B w w') (hB : NG ≤ B) : Env w' :=
  h.same fun i hi => k.block i (by omega)

/-- The bytes that 'text' has so far: what the loop holds. -/
structure TextAt (B r b L : Nat) (w : World) (R : Res (List UInt8)) (g : Nat) (out : Value) (wr : World) : Prop where
  ex : ∃ acc l, textLoop g acc l = R ∧ l.length < g ∧ acc.length + 4 * l.length ≤ 4 * L ∧ wr.ownsRowF B 5 1 out acc.length (Lib.byteCells acc) ∧ Rd wr r b l
  kept : Kept B r w wr
  size : B ≤ wr.heap.size
  env : Env wr

theorem escape_bound {l : List UInt8} {n : Int} {r : List UInt8} (h : escape l = .ok n r) : 0 ≤ n ∧ n ≤ 1114111 ∧ r.length < l.length := by
  cases l with
  | nil => simp [escape] at h
  | cons c l =>
    unfold escape at h
    simp only at h
    split at h
    · rename_i m hm
      simp only [Res.ok.injEq] at h
      obtain ⟨rfl, rfl⟩ := h
      refine ⟨?_, ?_, by simp⟩
      all_goals
        unfold letter at hm
        repeat' split at hm
        all_goals simp at hm
        all_goals omega
    · split at h
      · split at h
        · cases h
        · rename_i m r1 hu
          obtain ⟨b0, b1, b2⟩ := unit_bound hu
          split at h
          · rename_i hs
            unfold low at h
            split at h
            · cases h
            · rename_i _ l1 hw
              have hl1 : l1.length ≤ r1.length := by
                unfold word at hw
                split at hw
                · simp only [Res.ok.injEq] at hw
                  rw [← hw.2]; simp
                · cases hw
              split at h
              · cases h
              · rename_i m2 l2 hu2
                obtain ⟨c0, c1, c2⟩ := unit_bound hu2
                split at h
                · simp only [Res.ok.injEq] at h
                  obtain ⟨rfl, rfl⟩ := h
                  refine ⟨by omega, by omega, by simp; omega⟩
                · cases h
          · split at h
            · simp only [Res.ok.injEq] at h
              obtain ⟨rfl, rfl⟩ := h
              refine ⟨by omega, by omega, by simp; omega⟩
            · cases h
      · cases h

theorem decode_bound (l : List UInt8) (h : l ≠ []) : 1 ≤ (Js.decode l).2 ∧ (Js.decode l).2 ≤ 4 ∧ (Js.decode l).2 ≤ l.length ∧ (Js.decode l).1 ≤ 1114111 := by
  have hl : 1 ≤ l.length := by cases l with
    | nil => exact absurd rfl h
    | cons _ _ => simp
  unfold Js.decode Lib.decodeN
  rw [if_neg (by omega)]
  generalize (l.getD 0 0).toNat = b0
  generalize (l.getD 1 0).toNat = b1
  generalize (l.getD 2 0).toNat = b2
  generalize (l.getD 3 0).toNat = b3
  repeat' split
  all_goals (refine ⟨?_, ?_, ?_, ?_⟩ <;> simp <;> omega)

theorem Kept.grown_alloc {B r : Nat} {a w w' : World} {row : Option Nat} {o : Obj} (h : Kept B r a w) (hg : (w.alloc o).grownBy w' row) (hB : B ≤ w.heap.size) (hr : ∀ k, row = some k → B ≤ k) : Kept B r a w' :=
  (h.alloc hB o).grown hg (by simp; omega) hr
theorem Rd.grown {w w' : World} {r b B : Nat} {l : List UInt8} {row : Option Nat} (h : Rd w r b l) (hg : w.grownBy w' row) (hr : ∀ k, row = some k → B ≤ k) (h1 : r < B) (h2 : b < B) : Rd w' r b l :=
  h.same (hg.block r h.lt (fun e => by have := hr r e.symm; omega)) (fun hne => hg.block b (h.blt hne) (fun e => by have := hr b e.symm; omega))
theorem Rd.alloc {w : World} {r b : Nat} {l : List UInt8} (h : Rd w r b l) (o : Obj) : Rd (w.alloc o) r b l :=
  h.same (Below.heap_alloc _ _ _ h.lt) (fun hne => Below.heap_alloc _ _ _ (h.blt hne))

def strv (l : List UInt8) : Value := .string ⟨l.toArray⟩

set_option maxHeartbeats 4000000 in
set_option maxRecDepth 100000 in
theorem text_any (r b : Nat) (l : List UInt8) (w : World) (h : Rd w r b l) (hE : Env w) (hr : NG ≤ r) (hL : l.length ≤ 1099511627776) :
    Calls Tryd.prog 26 #[.pointer (some ⟨r, 0, none⟩)] w (Steps1 (List UInt8) strv r b w (text l)) := by
  cases l with
  | nil =>
    go_enter Tryd.func26, Tryd.ntmps26
    go_wp2_with (first | (go_at_call 18; (with_reducible refine (need_f _).mono ?_); rintro e w' ⟨rfl, rfl⟩) | (go_at_call 27; refine (is_f r b [] 34 _ h rfl).mono ?_; rintro e w' ⟨rfl, rfl⟩))
    exact ⟨rfl, Steps1.err rfl ⟨rfl, Kept.refl _ _ _⟩⟩
  | cons c l =>
    by_cases hc : c = 34
    · subst hc
      simp only [List.length_cons] at hL
      have hb := h.blt (by simp)
      have hrw := h.lt
      obtain ⟨R, hR⟩ : ∃ R, textLoop (l.length + 1) [] l = R := ⟨_, rfl⟩
      have hRt : text (34 :: l) = R := hR
      rw [hRt]
      have HR := Lib.hid hR
      have H0 := Lib.hid h
      have HE := Lib.hid hE
      clear hR hRt h hE
      go_enter Tryd.func26, Tryd.ntmps26
      go_wp2_with fail
      refine (is_t r b (34 :: l) 34 _ H0.out rfl).mono ?_
      rintro e w1 ⟨rfl, hR1, hK1⟩
      have HA : Hid (TextAt w.heap.size r b l.length w R (l.length + 1) (.slice none 0 0) w1) :=
        ⟨⟨[], l, HR.out, by omega, by simp, World.ownsRowF_nil _ _ _ _, hR1⟩, hK1, hK1.size, HE.out.kept hK1 hr⟩
      clear hR1 hK1 HR H0 HE
      go_wp2_with (first | (go_at_call 18; (with_reducible refine (need_t _).mono ?_); rintro e w' ⟨rfl, rfl⟩))
      go_loopg [3, 4, 5, 6] (l.length + 1) (fun g out _ _ _ wr => TextAt w.heap.size r b l.length w R g out wr)
      case atStart => exact HA.out
      case round =>
        obtain ⟨⟨acc, l2, ht, hlen, hbd, hown, hRd⟩, hK, hsz, hEnv⟩ := hrel
        obtain ⟨gm, rfl⟩ : ∃ gm, gk = gm + 1 := ⟨gk - 1, by omega⟩
        have HO := Lib.hid hown
        have HRd := Lib.hid hRd
        have HK := Lib.hid hK
        have HEv := Lib.hid hEnv
        have HB := Lib.hid hb
        have HRW := Lib.hid hrw
        have hSZ := Lib.hid hsz
        clear hown hRd hK hEnv HA hb hrw hsz
        cases l2 with
        | nil =>
          have HF : Hid (R = .err 5) := ht.symm
          obtain ⟨v, a1, a2, a3, a4⟩ := HRd.out
          obtain ⟨p, cc, rfl, hcc⟩ := a4.nil
          clear ht a4 a2 a3
          go_wp2_with (first | (go_at_call 27; refine (is_f r b [] _ _ HRd.out rfl).mono ?_; rintro e w' ⟨rfl, rfl⟩) | (go_at_call 42; refine (decode_empty _ _ _).mono ?_; rintro e w' ⟨rfl, rfl⟩) | (go_at_call 18; (with_reducible refine (need_f _).mono ?_); rintro e w' ⟨rfl, rfl⟩))
          exact ⟨rfl, Steps1.err HF.out ⟨rfl, HK.out⟩⟩
        | cons d l2 =>
          by_cases hq : d = 34
          · subst hq
            have HF : Hid (R = .ok acc l2) := ht.symm
            clear ht
            go_wp2_with fail
            refine (is_t r b (34 :: l2) 34 _ HRd.out rfl).mono ?_
            rintro e w2 ⟨rfl, hR2, hK2⟩
            have hO2 := ownsF_kept HO.out hK2 HRW.out
            obtain ⟨b2, hs2, _⟩ := slice_of_owned hO2
            have hrun := run_string hs2 w2 (fun _ => rfl)
            have HR2 := Lib.hid hR2
            have HK3 := Lib.hid (HK.out.trans (hK2.mono hSZ.out))
            clear hR2 hK2 hO2 hs2
            go_wp2
            go_ret
            exact Steps1.ok HF.out ⟨rfl, HR2.out, HK3.out⟩
          · have hk34 : isHead (d :: l2) 34 = false := u8_ne (d := 34) hq
            by_cases hq2 : d = 92
            · subst hq2
              have ht2 : (match escape l2 with
                | .err e => .err e
                | .ok n rest => textLoop gm (acc ++ utf8 n) rest) = R := ht
              have HT := Lib.hid ht2
              clear ht ht2 hq
              go_wp2_with (first | (go_at_call 27; (with_reducible refine (is_f r b (92 :: l2) 34 _ HRd.out hk34).mono ?_); rintro e w' ⟨rfl, rfl⟩))
              refine (is_t r b (92 :: l2) 92 _ HRd.out rfl).mono ?_
              rintro e w2 ⟨rfl, hR2, hK2⟩
              have HO2 := Lib.hid (ownsF_kept HO.out hK2 HRW.out)
              have HE2 := Lib.hid (HEv.out.kept hK2 hr)
              have HR2 := Lib.hid hR2
              have HK2 := Lib.hid (HK.out.trans (hK2.mono hSZ.out))
              have hSZ2 : Hid (w.heap.size ≤ w2.heap.size) := Nat.le_trans hSZ.out hK2.size
              clear hR2 hK2 hk34 HRd HO HK HEv hSZ
              go_wp2_with fail
              refine (escape_any r b l2 _ HR2.out).mono ?_
              intro e w3 he
              cases hx : escape l2 with
              | err cc =>
                obtain ⟨rfl, hk⟩ := he.get_err hx
                have HF : Hid (R = .err cc) := by have := HT.out; rw [hx] at this; exact this.symm
                have HK3 := Lib.hid (HK2.out.trans (hk.mono hSZ2.out))
                clear HT hx he hk
                exact ⟨rfl, Steps1.err HF.out ⟨rfl, HK3.out⟩⟩
              | ok n rest =>
                obtain ⟨rfl, hR3, hk⟩ := he.get_ok hx
                obtain ⟨n0, n1, hrl⟩ := escape_bound hx
                have HT2 : Hid (textLoop gm (acc ++ utf8 n) rest = R) := by have := HT.out; rw [hx] at this; exact this
                have HO3 := Lib.hid (ownsF_kept HO2.out hk HRW.out)
                have HE3 := Lib.hid (HE2.out.kept hk hr)
                have HR3 := Lib.hid hR3
                have HK3 := Lib.hid (HK2.out.trans (hk.mono hSZ2.out))
                have hSZ3 : Hid (w.heap.size ≤ w3.heap.size) := Nat.le_trans hSZ2.out hk.size
                clear HT hx he hk hR3 HO2 HE2 HR2 HK2 hSZ2
                unfold i32v
                have hsz3 := hSZ3.out
                simp only [List.length_cons] at hlen hbd
                go_wp2_with fail
                refine (Tryd.utf8_AppendRune_row w.heap.size _ acc.length _ n (by omega) (by omega) w3 HO3.out (by omega) hsz3).mono ?_
                rintro e w4 ⟨ov, rfl, hO4, o, hg⟩
                obtain ⟨er, el⟩ := encode_range n
                have hlow := HO3.out.lt
                have hc4 : Lib.byteCells acc ++ Lib.runeCells n = Lib.byteCells (acc ++ utf8 n) := by rw [utf8_cells n er]; simp [Lib.byteCells]
                have hn4 : acc.length + (Lib.runeCells n).length = (acc ++ utf8 n).length := by rw [utf8_cells n er]; simp [Lib.byteCells]
                have hul : (utf8 n).length ≤ 4 := by simpa [utf8] using el
                rw [hc4, hn4] at hO4
                have HA2 : Hid (TextAt w.heap.size r b l.length w R gm ov w4) :=
                  ⟨⟨acc ++ utf8 n, rest, HT2.out, by omega, by rw [List.length_append]; omega, hO4, (HR3.out.alloc o).grown hg (fun k hk => (hlow k hk).1) HRW.out HB.out⟩,
                    HK3.out.grown_alloc hg hsz3 (fun k hk => (hlow k hk).1), Nat.le_trans (by simp; omega) hg.size,
                    HE3.out.same fun k hk => (hg.block k (by simp; have := HE3.out.size; omega) (fun e => by have := (hlow k e.symm).1; have := HRW.out; omega)).trans (Below.heap_alloc _ _ _ (by have := HE3.out.size; omega))⟩
                clear hO4 hg er el hlow hc4 hn4 hul HT2 HO3 HE3 HR3 HK3
                go_wp2
                go_roundg gm
                case measure => omega
                case rel => exact HA2.out
            · have hk92 : isHead (d :: l2) 92 = false := u8_ne (d := 92) hq2
              have ht2 : (if plain (d :: l2) then textLoop gm (acc ++ (d :: l2).take (Js.decode (d :: l2)).2) ((d :: l2).drop (Js.decode (d :: l2)).2) else .err 5) = R := by
                rw [← ht]; simp only [textLoop, if_neg hq, if_neg hq2]
              have HT := Lib.hid ht2
              have hl3n : d :: l2 ≠ [] := by simp
              clear ht ht2
              generalize d :: l2 = l3 at hk34 hk92 HT HRd hlen hbd hl3n
              obtain ⟨v, a1, a2, a3, a4⟩ := HRd.out
              obtain ⟨o, cap, rfl, h5, h6, h7⟩ := a4.cons hl3n
              have HD := Lib.hid (decode_any b o cap l3 wr h7 HEv.out.utf8)
              have H7 := Lib.hid h7
              clear hq hq2 a3 a4 h7
              go_wp2_with (first | (go_at_call 27; (with_reducible refine (is_f r b l3 34 _ HRd.out hk34).mono ?_); rintro e w' ⟨rfl, rfl⟩) | (go_at_call 27; (with_reducible refine (is_f r b l3 92 _ HRd.out hk92).mono ?_); rintro e w' ⟨rfl, rfl⟩))
              refine HD.out.mono ?_
              rintro e w2 ⟨rfl, hB2⟩
              obtain ⟨y1, y4, yl, x1⟩ := decode_bound l3 hl3n
              have hpl : plain l3 = decide (0 < (Js.decode l3).2 ∧ 32 ≤ (Js.decode l3).1 ∧ ((Js.decode l3).1 ≠ 65533 ∨ 1 < (Js.decode l3).2)) := rfl
              generalize (Js.decode l3).1 = x at *
              generalize (Js.decode l3).2 = y at *
              have a1' : w2.cell? ⟨r, 0, none⟩ = some (.slice (some ⟨b, o, none⟩) l3.length cap) := by rw [hB2.cell HRd.out.lt]; exact a1
              have a2' : w2.frozen? ⟨r, 0, none⟩ = false := by rw [hB2.frozen HRd.out.lt]; exact a2
              have hK2 : Kept wr.heap.size r wr w2 := Kept.of_below hB2
              have HO2 := Lib.hid (ownsF_kept HO.out hK2 HRW.out)
              have HE2 := Lib.hid (HEv.out.kept hK2 hr)
              have HR2 := Lib.hid (HRd.out.below hB2)
              have HK2 := Lib.hid (HK.out.trans (hK2.mono hSZ.out))
              have hSZ2 : Hid (w.heap.size ≤ w2.heap.size) := Nat.le_trans hSZ.out hK2.size
              have H72 := Lib.hid (H7.out.same (w' := w2) fun hne => hB2.block b (H7.out.lt hne))
              have t0 : decide ((0 : Int) < (y : Int)) = true := by simp; omega
              clear a1 a2 hB2 hK2 HO HEv HRd HK hSZ H7 HD hk34 hk92
              cases hp : plain l3 with
              | false =>
                have HF : Hid (R = .err 5) := by have := HT.out; rw [hp] at this; exact this.symm
                have hnp : x < 32 ∨ (32 ≤ x ∧ x = 65533 ∧ y = 1) := by
                  rw [hp] at hpl
                  have := of_decide_eq_false hpl.symm
                  omega
                clear HT hp hpl
                rcases hnp with hx | ⟨hx, rfl, rfl⟩
                · have t1 : decide ((32 : Int) ≤ (x : Int)) = false := by simp; omega
                  go_wp2_with (first | (go_at_call 18; (with_reducible refine (need_f _).mono ?_); rintro e w' ⟨rfl, rfl⟩))
                  exact ⟨rfl, Steps1.err HF.out ⟨rfl, HK2.out⟩⟩
                · go_wp2_with (first | (go_at_call 18; (with_reducible refine (need_f _).mono ?_); rintro e w' ⟨rfl, rfl⟩))
                  exact ⟨rfl, Steps1.err HF.out ⟨rfl, HK2.out⟩⟩
              | true =>
                have HT2 : Hid (textLoop gm (acc ++ l3.take y) (l3.drop y) = R) := by have := HT.out; rw [hp] at this; exact this
                have hnp : 32 ≤ x ∧ (x ≠ 65533 ∨ (x = 65533 ∧ 1 < y)) := by
                  rw [hp] at hpl
                  have := of_decide_eq_true hpl.symm
                  omega
                clear HT hp hpl
                obtain ⟨hx, hor⟩ := hnp
                have t1 : decide ((32 : Int) ≤ (x : Int)) = true := by simp; omega
                obtain ⟨p3, hsl3, hS3⟩ := run_from H72.out h5 h6 y yl y rfl l3.length (l3.length - y) rfl rfl
                have HS3 := Lib.hid hS3
                have hyc : y ≤ cap := by omega
                obtain ⟨i0, hi, hz0, hz1, hz2⟩ := info_parts info8
                have hnew : ∀ j u, (Lib.byteCells (l3.take y))[j]? = some u → w2.cell? ((⟨b, o, none⟩ : Addr).add j) = some u := fun j u hju => by
                  obtain ⟨hj, rfl⟩ := byteCells_get _ _ _ hju
                  rw [show (⟨b, o, none⟩ : Addr).add j = ⟨b, o + j, none⟩ by unfold Addr.add; split <;> simp_all]
                  exact H72.out.take y j hj
                have hone : ∀ u ∈ Lib.byteCells (l3.take y), u.oneCell' = true := fun u hu => by
                  simp only [Lib.byteCells, List.mem_map] at hu
                  obtain ⟨c, _, rfl⟩ := hu
                  rfl
                have hlt : (l3.take y).length = y := by simp; omega
                have HNEW := Lib.hid hnew
                have HONE := Lib.hid hone
                have HLT := Lib.hid hlt
                have hsz2 := hSZ2.out
                clear hS3 hnew hone hlt
                have closing : ∀ ov w4, w4.ownsRowF w.heap.size 5 1 ov (acc.length + y) (Lib.byteCells acc ++ Lib.byteCells (l3.take y)) → w2.grownBy w4 u3.ownBlock →
                    w4.cell? ⟨r, 0, none⟩ = some (.slice (some ⟨b, o, none⟩) l3.length cap) ∧ w4.frozen? ⟨r, 0, none⟩ = false ∧ TextAt w.heap.size r b l.length w R gm ov (w4.setCell ⟨r, 0, none⟩ (.slice p3 (l3.length - y) (cap - y))) := by
                  intro ov w4 hO4 hg
                  have hlow := HO2.out.lt
                  have hR4 : Rd w4 r b l3 := HR2.out.grown hg (fun k hk => (hlow k hk).1) HRW.out HB.out
                  have hne : ∀ k, k < w.heap.size → some k ≠ u3.ownBlock := fun k hk e => by have := (hlow k e.symm).1; omega
                  have hb2 : w4.heap[b]? = w2.heap[b]? := hg.block b (by have := HB.out; omega) (hne b HB.out)
                  have hr2 : w4.heap[r]? = w2.heap[r]? := hg.block r (by have := HRW.out; omega) (hne r HRW.out)
                  refine ⟨by rw [World.cell?_of_block (w := w2) (a := ⟨r, 0, none⟩) hr2]; exact a1', by rw [World.frozen?_of_block (w := w2) (a := ⟨r, 0, none⟩) hr2]; exact a2', ?_⟩
                  have hS4 : Slice w4 b (.slice p3 (l3.length - y) (cap - y)) (l3.drop y) := HS3.out.same fun _ => hb2
                  have hcat : Lib.byteCells acc ++ Lib.byteCells (l3.take y) = Lib.byteCells (acc ++ l3.take y) := by simp [Lib.byteCells]
                  have hcl : acc.length + y = (acc ++ l3.take y).length := by rw [List.length_append, HLT.out]
                  rw [hcat, hcl] at hO4
                  have hstk : Kept w4.heap.size r w4 (w4.setCell ⟨r, 0, none⟩ (.slice p3 (l3.length - y) (cap - y))) := Kept.store _ _ _ _
                  exact ⟨⟨acc ++ l3.take y, l3.drop y, HT2.out, by rw [List.length_drop]; omega, by rw [List.length_drop, List.length_append, HLT.out]; omega,
                    ownsF_kept hO4 hstk HRW.out, hR4.store hS4⟩,
                    (HK2.out.grown hg hsz2 (fun k hk => (hlow k hk).1)).trans (hstk.mono (Nat.le_trans hsz2 hg.size)),
                    Nat.le_trans (Nat.le_trans hsz2 hg.size) hstk.size,
                    (HE2.out.same fun k hk => hg.block k (by have := HE2.out.size; omega) (hne k (by have := HRW.out; omega))).kept hstk hr⟩
                have CL := Lib.hid closing
                have hnl : (Lib.byteCells (l3.take y)).length = y * 1 := by rw [Lib.byteCells_length, HLT.out]; omega
                have HNL := Lib.hid hnl
                clear closing HT2 HE2 HR2 HK2 HS3 HLT H72 hnl
                rcases hor with hx3 | ⟨rfl, hy1⟩
                · have t2 : ((x : Int) != 65533) = true := by rw [bne_iff_ne]; omega
                  go_wp2_with (first | (go_at_call 18; (with_reducible refine (need_t _).mono ?_); rintro e w' ⟨rfl, rfl⟩) | (at_builtin; refine wpList_append_ownF _ rfl _ _ 22 rfl w.heap.size 5 i0 (.int .u8 0) 1 1 Tryd.underlying22 hi hz0 hz1 hz2 rfl (by decide) _ _ _ rfl HO2.out ⟨b, o, none⟩ y cap (Lib.byteCells (l3.take y)) rfl HNL.out HNEW.out HONE.out ?c3 ?c4 hsz2 ?_))
                  case c3 => unfold maxLen; omega
                  case c4 => omega
                  intro ov w4 hO4 hg _
                  obtain ⟨b1, b2, b3⟩ := CL.out ov w4 hO4 hg
                  have B3 := Lib.hid b3
                  clear b3 hg hO4
                  go_wp2
                  go_roundg gm
                  case measure => omega
                  case rel => exact B3.out
                · have t3 : decide ((1 : Int) < (y : Int)) = true := by simp; omega
                  go_wp2_with (first | (go_at_call 18; (with_reducible refine (need_t _).mono ?_); rintro e w' ⟨rfl, rfl⟩) | (at_builtin; refine wpList_append_ownF _ rfl _ _ 22 rfl w.heap.size 5 i0 (.int .u8 0) 1 1 Tryd.underlying22 hi hz0 hz1 hz2 rfl (by decide) _ _ _ rfl HO2.out ⟨b, o, none⟩ y cap (Lib.byteCells (l3.take y)) rfl HNL.out HNEW.out HONE.out ?d3 ?d4 hsz2 ?_))
                  case d3 => unfold maxLen; omega
                  case d4 => omega
                  intro ov w4 hO4 hg _
                  obtain ⟨b1, b2, b3⟩ := CL.out ov w4 hO4 hg
                  have B3 := Lib.hid b3
                  clear b3 hg hO4
                  go_wp2
                  go_roundg gm
                  case measure => omega
                  case rel => exact B3.out
    · have hk : isHead (c :: l) 34 = false := u8_ne (d := 34) hc
      have hfin : text (c :: l) = .err 5 := by simp [text, hc]
      rw [hfin]
      go_enter Tryd.func26, Tryd.ntmps26
      go_wp2_with (first | (go_at_call 18; (with_reducible refine (need_f _).mono ?_); rintro e w' ⟨rfl, rfl⟩) | (go_at_call 27; refine (is_f r b (c :: l) 34 _ h hk).mono ?_; rintro e w' ⟨rfl, rfl⟩))
      exact ⟨rfl, Steps1.err rfl ⟨rfl, Kept.refl _ _ _⟩⟩
end Go.Proofs.YtcmlppknfbndaaaDoor
