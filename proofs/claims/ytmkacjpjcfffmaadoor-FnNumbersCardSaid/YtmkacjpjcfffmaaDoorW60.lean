/- Walks: the cursor of the draws: l1New, l1Byte, l1Below, l1Once, l1Pick, l1PickInt. -/
import Derived.Test.YtmkacjpjcfffmaaDoorW1
import Derived.Test.YtmkacjpjcfffmaaDoorMore
namespace Go.Proofs.YtmkacjpjcfffmaaDoor
open Go.RowKit

abbrev BytesAt (w : World) (B : Nat) (v : Value) (L : List UInt8) : Prop := ReadsV w B v (bytesV L)
/-- The block p is a cursor over the bytes L, which v reads as. -/
def CurAt (W : World) (p : Nat) (v : Value) (L : List UInt8) : Prop :=
  (∃ i h : Int, 0 ≤ i ∧ i ≤ (L.length : Int) ∧ W.cell? ⟨p, 0, none⟩ = some v ∧ W.cell? ⟨p, 1, none⟩ = some (.int .i64 i) ∧ W.cell? ⟨p, 2, none⟩ = some (.int .i64 h)) ∧ W.frozen? ⟨p, 1, none⟩ = false ∧ W.frozen? ⟨p, 2, none⟩ = false ∧ BytesAt W p v L
theorem CurAt.lt {W : World} {p : Nat} {v : Value} {L : List UInt8} (h : CurAt W p v L) : p < W.heap.size := by
  obtain ⟨⟨i, h, _, _, h0, _⟩, _⟩ := h
  exact World.block_lt_of_cell? _ _ h0
theorem CurAt.to {W W' : World} {p : Nat} {v : Value} {L : List UInt8} (h : CurAt W p v L) (k : Below W.heap.size W W') : CurAt W' p v L := by
  have hl := h.lt
  obtain ⟨⟨i, x, i0, i1, h0, h1, h2⟩, f1, f2, hr⟩ := h
  obtain ⟨hc, hf⟩ := bcell k
  exact ⟨⟨i, x, i0, i1, (hc p 0 hl).trans h0, (hc p 1 hl).trans h1, (hc p 2 hl).trans h2⟩, (hf p 1 hl).trans f1, (hf p 2 hl).trans f2, hr.keep fun b o hb => hc b o (by omega)⟩
theorem CurAt.set2 {W : World} {p : Nat} {v : Value} {L : List UInt8} (h : CurAt W p v L) (x : Int) : CurAt (W.setCell ⟨p, 2, none⟩ (.int .i64 x)) p v L := by
  have hB : Below p W (W.setCell ⟨p, 2, none⟩ (.int .i64 x)) := (Below.refl p W).setCell (Nat.le_refl _) _
  obtain ⟨⟨i, y, i0, i1, h0, h1, h2⟩, f1, f2, hr⟩ := h
  refine ⟨⟨i, x, i0, i1, by simp [go_sem, h0], by simp [go_sem, h1], by simp [go_sem, h2]⟩, by simp [go_sem, f1], by simp [go_sem, f2], hr.keep fun b o hb => hB.cell (p := ⟨b, o, none⟩) hb⟩
theorem CurAt.set1 {W : World} {p : Nat} {v : Value} {L : List UInt8} (h : CurAt W p v L) {x : Int} (hx : 0 ≤ x ∧ x ≤ (L.length : Int)) : CurAt (W.setCell ⟨p, 1, none⟩ (.int .i64 x)) p v L := by
  have hB : Below p W (W.setCell ⟨p, 1, none⟩ (.int .i64 x)) := (Below.refl p W).setCell (Nat.le_refl _) _
  obtain ⟨⟨i, y, i0, i1, h0, h1, h2⟩, f1, f2, hr⟩ := h
  refine ⟨⟨x, y, hx.1, hx.2, by simp [go_sem, h0], by simp [go_sem, h1], by simp [go_sem, h2]⟩, by simp [go_sem, f1], by simp [go_sem, f2], hr.keep fun b o hb => hB.cell (p := ⟨b, o, none⟩) hb⟩
theorem and255 (a : Int) : ∃ n : Nat, n ≤ 255 ∧ bits BinOp.and IntKind.i64 a 255 = (n : Int) := by
  refine ⟨((BitVec.ofInt 64 a) &&& (BitVec.ofInt 64 255)).toNat, ?_, ?_⟩
  · rw [BitVec.toNat_and]
    exact Nat.le_trans Nat.and_le_right (by decide)
  · have h : ((BitVec.ofInt 64 a) &&& (BitVec.ofInt 64 255)).toNat ≤ 255 := by
      rw [BitVec.toNat_and]
      exact Nat.le_trans Nat.and_le_right (by decide)
    show IntKind.i64.wrap (((BitVec.ofInt 64 a &&& BitVec.ofInt 64 255).toNat : Nat) : Int) = _
    exact IntWalk.i64_in _ (by omega)
/-- The call returns an int of 0 .. 255 and has moved the cursor p. -/
def RetX (W : World) (p : Nat) (v : Value) (L : List UInt8) (e : Ending) (W' : World) : Prop := ∃ x : Nat, x ≤ 255 ∧ e = .returned (.int .i64 (x : Int)) ∧ CurAt W' p v L ∧ W.grownBy W' (some p)

theorem l1ByteS (p : Nat) (v : Value) (L : List UInt8) (W : World) (h : CurAt W p v L) (hL : L.length ≤ 1073741824) :
    Calls Tryd.prog 52 #[.pointer (some ⟨p, 0, none⟩)] W fun e W' => RetX W p v L e W' := by
  have H := hide h
  obtain ⟨⟨i, x, i0, i1, h0, h1, h2⟩, f1, f2, hr⟩ := h
  obtain ⟨A, c, hv, hc, hcell⟩ := hr
  have hl : (bytesV L).length = L.length := List.length_map _
  rw [hl] at hv hc hcell
  subst hv
  by_cases hi : i < (L.length : Int)
  · obtain ⟨k, rfl⟩ := Int.eq_ofNat_of_zero_le i0
    have hk : k < L.length := by omega
    obtain ⟨b, o, hA, hb, hcl⟩ := hcell (by omega)
    subst hA
    obtain ⟨y, hy⟩ : ∃ y, L[k]? = some y := ⟨_, List.getElem?_eq_getElem hk⟩
    have hyc := hcl k (.int .u8 (y.toNat : Int)) (by simp [bytesV, hy])
    have hbp : b ≠ p := by omega
    clear hcell hcl hy
    go_enter Tryd.func52, Tryd.ntmps52
    go_wp2
    go_quiet (fail)
    go_wp2
    go_quiet (fail)
    go_wp2
    go_quiet (fail)
    go_wp2
    go_ret
    obtain ⟨q, hq, e⟩ := and255 _
    exact ⟨q, hq, ret_int e, (H.out.set2 _).set1 (by omega), grown_setCell (grown_drewN (grown_setCell (grown_refl _ _) _ _) _) _ _⟩
  · obtain rfl : i = (L.length : Int) := by omega
    clear hcell hi i1
    go_enter Tryd.func52, Tryd.ntmps52
    go_wp2
    go_quiet (fail)
    go_wp2
    go_quiet (fail)
    go_wp2
    go_ret
    obtain ⟨q, hq, e⟩ := and255 _
    exact ⟨q, hq, ret_int e, H.out.set2 _, by first | exact grown_drewN (grown_setCell (grown_refl _ _) _ _) _ | exact grown_drewN (grown_drewN (grown_setCell (grown_refl _ _) _ _) _) _ | exact grown_drewN (grown_setCell (grown_drewN (grown_setCell (grown_refl _ _) _ _) _) _ _) _⟩

/-- The call returns an int below n, or naught, and has moved the cursor p. -/
def RetK (W : World) (p : Nat) (v : Value) (L : List UInt8) (n : Int) (e : Ending) (W' : World) : Prop := ∃ r : Nat, (0 < n → (r : Int) < n) ∧ (n ≤ 0 → r = 0) ∧ e = .returned (.int .i64 (r : Int)) ∧ CurAt W' p v L ∧ W.grownBy W' (some p)
theorem l1BelowS (p : Nat) (v : Value) (L : List UInt8) (n : Int) (W : World) (h : CurAt W p v L) (hL : L.length ≤ 1073741824) (hn : n ≤ 9223372036854775807) :
    Calls Tryd.prog 42 #[.pointer (some ⟨p, 0, none⟩), .int .i64 n] W fun e W' => RetK W p v L n e W' := by
  have H := hide h
  clear h
  by_cases h0 : n ≤ 0
  · go_enter Tryd.func42, Tryd.ntmps42
    go_wp2
    go_ret
    exact ⟨0, fun h => by omega, fun _ => rfl, rfl, H.out, grown_refl _ _⟩
  · by_cases h1 : n ≤ 256
    · go_enter Tryd.func42, Tryd.ntmps42
      go_wp2_with fail
      refine (l1ByteS p v L W H.out hL).mono ?_
      rintro e w1 ⟨x, hx, rfl, c1, g1⟩
      have C1 := hide c1
      have G1 := hide g1
      clear c1 g1
      go_wp2
      go_ret
      refine ⟨x % n.toNat, fun _ => ?_, fun h => by omega, ret_int ?_, C1.out, G1.out⟩
      · have := Nat.mod_lt x (show 0 < n.toNat by omega)
        omega
      · obtain ⟨k, rfl⟩ := Int.eq_ofNat_of_zero_le (show 0 ≤ n by omega)
        rw [Int.toNat_natCast]
        rfl
    · go_enter Tryd.func42, Tryd.ntmps42
      go_wp2_with fail
      refine (l1ByteS p v L W H.out hL).mono ?_
      rintro e w1 ⟨x, hx, rfl, c1, g1⟩
      have C1 := hide c1
      have G1 := hide g1
      clear c1 g1
      go_wp2_with fail
      refine (l1ByteS p v L w1 C1.out hL).mono ?_
      rintro e w2 ⟨y, hy, rfl, c2, g2⟩
      have C2 := hide c2
      have G2 := hide (grown_trans G1.out g2)
      clear c2 g2
      go_wp2_with fail
      refine (l1ByteS p v L w2 C2.out hL).mono ?_
      rintro e w3 ⟨z, hz, rfl, c3, g3⟩
      have C3 := hide c3
      have G3 := hide (grown_trans G2.out g3)
      clear c3 g3
      go_wp2_with fail
      refine (l1ByteS p v L w3 C3.out hL).mono ?_
      rintro e w4 ⟨u, hu, rfl, c4, g4⟩
      have C4 := hide c4
      have G4 := hide (grown_trans G3.out g4)
      clear c4 g4
      go_wp2
      go_ret
      refine ⟨(x * 16777216 + y * 65536 + z * 256 + u) % n.toNat, fun _ => ?_, fun h => by omega, ret_int ?_, C4.out, G4.out⟩
      · have := Nat.mod_lt (x * 16777216 + y * 65536 + z * 256 + u) (show 0 < n.toNat by omega)
        omega
      · obtain ⟨k, rfl⟩ := Int.eq_ofNat_of_zero_le (show 0 ≤ n by omega)
        rw [Int.toNat_natCast, Int.natCast_emod]
        congr 1
theorem l1OnceS (p : Nat) (v : Value) (L : List UInt8) (n : Int) (W : World) (h : CurAt W p v L) (hL : L.length ≤ 1073741824) (hn : n ≤ 9223372036854775807) :
    Calls Tryd.prog 30 #[.pointer (some ⟨p, 0, none⟩), .int .i64 n] W fun e W' => ∃ b : Bool, e = .returned (.bool b) ∧ CurAt W' p v L ∧ W.grownBy W' (some p) := by
  have H := hide h
  clear h
  go_enter Tryd.func30, Tryd.ntmps30
  go_wp2_with fail
  refine (l1BelowS p v L n W H.out hL hn).mono ?_
  rintro e w1 ⟨r, _, _, rfl, c1, g1⟩
  have C1 := hide c1
  have G1 := hide g1
  clear c1 g1
  go_wp2
  go_ret
  exact ⟨_, rfl, C1.out, G1.out⟩
theorem l1PickS (p : Nat) (v : Value) (L : List UInt8) (u : Value) (ls : List (List UInt8)) (W : World) (h : CurAt W p v L) (hL : L.length ≤ 1073741824) (hr : StrsAt W W.heap.size u ls) (h0 : 0 < ls.length) (h1 : ls.length ≤ 1048576) (hne : ∀ j, u.ownBlock = some j → j ≠ p) (hb : ∀ b o n c, u = .slice (some ⟨b, o, none⟩) n c → b ≠ p) :
    Calls Tryd.prog 31 #[.pointer (some ⟨p, 0, none⟩), u] W fun e W' => ∃ l : List UInt8, l ∈ ls ∧ e = .returned (.string ⟨l.toArray⟩) ∧ CurAt W' p v L ∧ W.grownBy W' (some p) := by
  obtain ⟨A, c, rfl, hc, he⟩ := formS_ hr
  have H := hide h
  have He := hide he
  clear h he hr hne
  go_enter Tryd.func31, Tryd.ntmps31
  go_wp2_with fail
  refine (l1BelowS p v L _ W H.out hL (by omega)).mono ?_
  rintro e w1 ⟨r, hr1, _, rfl, c1, g1⟩
  have hr2 := hr1 (by omega)
  have hr3 : r < ls.length := by omega
  obtain ⟨b, o, x, rfl, hbl, hx, hcell⟩ := He.out r hr3
  have hbp : b ≠ p := hb b o _ _ rfl
  have hc1 := g1.cell hcell (fun e => hbp (Option.some.inj e))
  have C1 := hide c1
  have G1 := hide g1
  clear c1 g1 hcell hr1 hr2
  go_wp2
  go_ret
  exact ⟨x, List.mem_of_getElem? hx, rfl, C1.out, G1.out⟩
theorem l1PickIntS (p : Nat) (v : Value) (L : List UInt8) (u : Value) (xs : List Int) (W : World) (h : CurAt W p v L) (hL : L.length ≤ 1073741824) (hr : IntsAt W W.heap.size u xs) (h0 : 0 < xs.length) (h1 : xs.length ≤ 1048576) (hb : ∀ b o n c, u = .slice (some ⟨b, o, none⟩) n c → b ≠ p) :
    Calls Tryd.prog 43 #[.pointer (some ⟨p, 0, none⟩), u] W fun e W' => ∃ x : Int, x ∈ xs ∧ e = .returned (.int .i64 x) ∧ CurAt W' p v L ∧ W.grownBy W' (some p) := by
  obtain ⟨A, c, rfl, hc, he⟩ := form_ hr
  have H := hide h
  have He := hide he
  clear h he hr
  go_enter Tryd.func43, Tryd.ntmps43
  go_wp2_with fail
  refine (l1BelowS p v L _ W H.out hL (by omega)).mono ?_
  rintro e w1 ⟨r, hr1, _, rfl, c1, g1⟩
  have hr2 := hr1 (by omega)
  have hr3 : r < xs.length := by omega
  obtain ⟨b, o, x, rfl, hbl, hx, hcell⟩ := He.out r hr3
  have hbp : b ≠ p := hb b o _ _ rfl
  have hc1 := g1.cell hcell (fun e => hbp (Option.some.inj e))
  have C1 := hide c1
  have G1 := hide g1
  clear c1 g1 hcell hr1 hr2
  go_wp2
  go_ret
  exact ⟨x, List.mem_of_getElem? hx, rfl, C1.out, G1.out⟩
theorem newCur {w : World} {v : Value} {L : List UInt8} (h : BytesAt w w.heap.size v L) (x : Int) (T : TypeId) : CurAt (w.alloc (.cells #[v, .int .i64 0, .int .i64 x] T)) w.heap.size v L :=
  ⟨⟨0, x, Int.le_refl _, by omega, World.cell?_alloc_at _ _ _ _ rfl, World.cell?_alloc_at _ _ _ _ rfl, World.cell?_alloc_at _ _ _ _ rfl⟩, by simp [go_sem], by simp [go_sem], h.keep fun b o hb => (below_alloc w _).cell (p := ⟨b, o, none⟩) hb⟩
/-- The call returns a cursor of its own. -/
def RetCur (w : World) (v : Value) (L : List UInt8) (e : Ending) (w' : World) : Prop := ∃ p, e = .returned (.pointer (some ⟨p, 0, none⟩)) ∧ w.heap.size ≤ p ∧ CurAt w' p v L ∧ Below w.heap.size w w'
set_option maxRecDepth 100000 in
theorem l1NewS (v : Value) (L : List UInt8) (w : World) (h : BytesAt w w.heap.size v L) (hL : L.length ≤ 1073741824) :
    Calls Tryd.prog 28 #[v] w fun e w' => RetCur w v L e w' := by
  have H := hide h
  obtain ⟨A, c, hv, hc, hcell⟩ := h
  have hl : (bytesV L).length = L.length := List.length_map _
  rw [hl] at hv hc hcell
  subst hv
  have Hc := hide hcell
  clear hcell hc hl
  go_enter Tryd.func28, Tryd.ntmps28
  go_wp2
  go_loop [3, 4] (fun h i => ∃ (k : Nat) (x : Int), k ≤ L.length ∧ i = .int .i64 k ∧ h = .int .i64 x) (fun _ i => L.length - (intOf i).toNat)
  case atStart => exact ⟨0, _, by omega, rfl, rfl⟩
  case round =>
    obtain ⟨k, x, hk, rfl, rfl⟩ := hrel
    by_cases hlt : k < L.length
    · by_cases h4 : k < 4000
      · obtain ⟨b, o, rfl, hb, hcl⟩ := Hc.out (by omega)
        obtain ⟨y, hy⟩ : ∃ y, L[k]? = some y := ⟨_, List.getElem?_eq_getElem hlt⟩
        have hyc := hcl k (.int .u8 (y.toNat : Int)) (by simp [bytesV, hy])
        clear hcl hy
        go_wp2
        go_round
        case rel => exact ⟨k + 1, _, by omega, by go_num, rfl⟩
        case measure => simp [intOf]; omega
      · have h4' : 4000 ≤ k := by omega
        clear h4
        have hd : decide ((k : Int) < 4000) = false := decide_eq_false (by omega)
        go_wp2
        go_ret
        exact ⟨_, rfl, Nat.le_refl _, newCur H.out _ _, below_alloc _ _⟩
    · have h5 : L.length ≤ k := by omega
      clear hlt
      have hd : decide ((k : Int) < (L.length : Int)) = false := decide_eq_false (by omega)
      go_wp2
      go_ret
      exact ⟨_, rfl, Nat.le_refl _, newCur H.out _ _, below_alloc _ _⟩
end Go.Proofs.YtmkacjpjcfffmaaDoor
