/- Texts of one kind, laid together (5 of them). -/
import Derived.Test.YtmkacjpjcfffmabGreatDoorP1
import Derived.Test.YtmkacjpjcfffmabGreatDoorP2
import Derived.Test.YtmkacjpjcfffmabGreatDoorP3
import Derived.Test.YtmkacjpjcfffmabGreatDoorP5
import Derived.Test.YtmkacjpjcfffmabGreatDoorP6
import Derived.Test.YtmkacjpjcfffmabGreatDoorP7
namespace Go.Proofs.YtmkacjpjcfffmabGreatDoor
/- Walks: ParseSet, in the program and in the reference. -/
section
open Go.RowKit

theorem or_pow (s j : Nat) (h : s < 2 ^ j) : s ||| 2 ^ j = s + 2 ^ j := by
  rw [Nat.or_comm, Nat.add_comm]
  have := Nat.two_pow_add_eq_or_of_lt h 1
  simpa using this.symm
theorem or_step (s j : Nat) (h : s < 2 ^ j) (hj : j ≤ 5) : bits .or .i64 (s : Int) (wrap64 (2 ^ j)) = ((s + 2 ^ j : Nat) : Int) := by
  have hp : 2 ^ j ≤ 32 := Nat.pow_le_pow_right (n := 2) (by omega) hj
  have e : wrap64 (2 ^ j) = ((2 ^ j : Nat) : Int) := by
    have : ((2 : Int) ^ j) = ((2 ^ j : Nat) : Int) := by simp
    rw [this]
    exact IntWalk.wrap64_in _ (by omega)
  rw [e, i64_or s (2 ^ j) (by omega) (by omega), or_pow s j h]
theorem pow_le32 {j : Nat} (h : j ≤ 5) : 2 ^ j ≤ 32 := Nat.pow_le_pow_right (n := 2) (by omega) h

/-- The tuple that ParseSet returns. -/
def PSet (l : List UInt8) (e : Ending) : Prop := e = .returned (.tuple #[.int .i64 ((parseSet l).1 : Int), .bool (parseSet l).2])
theorem PSet_mk {l : List UInt8} {n : Int} {m : Nat} {b : Bool} (h : parseSet l = (m, b)) (hn : n = (m : Int)) : PSet l (.returned (.tuple #[.int .i64 n, .bool b])) := by
  unfold PSet
  rw [h, hn]

theorem parseSetI (l : List UInt8) (w : World) (hs : l.length ≤ 9223372036854775807) :
    Calls Tryz.prog 37 #[.string ⟨l.toArray⟩] w fun e w' => PSet l e ∧ Below w.heap.size w w' := by
  by_cases hd : l = [45]
  · subst hd
    go_enter Tryz.func37, Tryz.ntmps37
    go_wp2
    go_ret2
    exact ⟨PSet_mk parseSet_dash rfl, Below.refl _ _⟩
  · have hq : (l == [45]) = false := by simpa using hd
    by_cases hn : l = []
    · subst hn
      go_enter Tryz.func37, Tryz.ntmps37
      go_wp2
      go_ret2
      exact ⟨PSet_mk (m := 0) rfl rfl, Below.refl _ _⟩
    · have hl0 : ((l.length : Int) == 0) = false := by
        have : l.length ≠ 0 := fun h => hn (List.eq_nil_of_length_eq_zero h)
        simp; omega
      have Hd := hide hd
      have Hn := hide hn
      clear hd
      by_cases hl : 6 < l.length
      · have H := hide (parseSet_none l (parseTo_long l hl) Hd.out)
        go_enter Tryz.func37, Tryz.ntmps37
        go_wp2
        go_ret2
        exact ⟨PSet_mk H.out rfl, Below.refl _ _⟩
      · have hl6 : l.length ≤ 6 := by omega
        go_enter Tryz.func37, Tryz.ntmps37
        go_wp2
        go_loopw [4, 5] (fun t i wr => ∃ (k s n : Nat), k ≤ l.length ∧ i = .int .i64 k ∧ t = .int .i64 s ∧ Hid (parseTo (l.take k) = some s) ∧ wr = w.drewN n) (fun _ i _ => l.length - (intOf i).toNat)
        case atStart => exact ⟨0, 0, 0, by omega, rfl, rfl, rfl, rfl⟩
        case round =>
          obtain ⟨k, s, n, hk, rfl, rfl, hp, rfl⟩ := hrel
          by_cases hlt : k < l.length
          · obtain ⟨c, hc⟩ : ∃ c, l[k]? = some c := ⟨_, List.getElem?_eq_getElem hlt⟩
            have hts := hide (take_snoc l k c hc)
            obtain ⟨hk1, hgl⟩ := bget l k c hc
            clear hc
            have hsl := (parseTo_lt _ _ hp.out).1
            by_cases c1 : 97 ≤ c.toNat
            · by_cases c2 : c.toNat ≤ 102
              · by_cases c3 : s < 2 ^ (c.toNat - 97)
                · have Hn' : Hid (parseTo (l.take (k + 1)) = some (s + 2 ^ (c.toNat - 97))) := by
                    rw [hts.out, parseTo_snoc, hp.out]; simp [stepSet, c1, c2, c3, Hid]
                  have Hor := hide (or_step s _ c3 (by omega))
                  by_cases k0 : 0 < k
                  · obtain ⟨d, hd1⟩ : ∃ d, l[k - 1]? = some d := ⟨_, List.getElem?_eq_getElem (by omega)⟩
                    have htk := take_snoc l (k - 1) d hd1
                    rw [show k - 1 + 1 = k from by omega] at htk
                    obtain ⟨d1, d2, d3, d4⟩ := parseTo_last (l.take (k - 1)) d s (by rw [← htk]; exact hp.out)
                    clear htk
                    obtain ⟨hk2, hgd⟩ := bget l (k - 1) d hd1
                    clear hd1
                    have hcd : d.toNat < c.toNat := by
                      rcases Nat.lt_or_ge d.toNat c.toNat with h | h
                      · exact h
                      · have := Nat.pow_le_pow_right (n := 2) (by omega) (show c.toNat - 97 ≤ d.toNat - 97 by omega)
                        omega
                    clear d3 d4
                    go_wp2
                    go_quiet (fail)
                    go_wp2
                    go_roundw
                    case rel =>
                      refine ⟨_, s + 2 ^ (c.toNat - 97), _, ?_, ?_, ?_, Hn', rfl⟩
                      · omega
                      · go_num
                      · rw [Hor.out]
                    case measure => simp [intOf]; omega
                  · obtain rfl : k = 0 := by omega
                    go_wp2
                    go_quiet (fail)
                    go_wp2
                    go_roundw
                    case rel =>
                      refine ⟨_, s + 2 ^ (c.toNat - 97), _, ?_, ?_, ?_, Hn', rfl⟩
                      · omega
                      · go_num
                      · rw [Hor.out]
                    case measure => simp [intOf]; omega
                · have H := hide (parseSet_none l (parseTo_take_none l (k + 1) (by rw [hts.out, parseTo_snoc, hp.out]; simp [stepSet, c3])) Hd.out)
                  have k0 : 0 < k := by
                    rcases Nat.eq_zero_or_pos k with h | h
                    · subst h
                      have := hp.out
                      rw [List.take_zero] at this
                      cases this
                      exact absurd (Nat.pow_pos (by omega)) c3
                    · exact h
                  obtain ⟨d, hd1⟩ : ∃ d, l[k - 1]? = some d := ⟨_, List.getElem?_eq_getElem (by omega)⟩
                  have htk := take_snoc l (k - 1) d hd1
                  rw [show k - 1 + 1 = k from by omega] at htk
                  obtain ⟨d1, d2, d3, d4⟩ := parseTo_last (l.take (k - 1)) d s (by rw [← htk]; exact hp.out)
                  clear htk
                  obtain ⟨hk2, hgd⟩ := bget l (k - 1) d hd1
                  clear hd1
                  have hcd : c.toNat ≤ d.toNat := by
                    rcases Nat.lt_or_ge d.toNat c.toNat with h | h
                    · have := Nat.pow_le_pow_right (n := 2) (by omega) (show d.toNat - 97 + 1 ≤ c.toNat - 97 by omega)
                      omega
                    · exact h
                  clear d3 d4 c3
                  go_wp2
                  go_quiet (fail)
                  go_wp2
                  go_ret2
                  exact ⟨PSet_mk H.out rfl, below_drewN (below_drewN (Below.refl _ _) _) _⟩
              · have H := hide (parseSet_none l (parseTo_take_none l (k + 1) (by rw [hts.out, parseTo_snoc, hp.out]; simp [stepSet, c2])) Hd.out)
                go_wp2
                go_ret2
                exact ⟨PSet_mk H.out rfl, below_drewN (Below.refl _ _) _⟩
            · have H := hide (parseSet_none l (parseTo_take_none l (k + 1) (by rw [hts.out, parseTo_snoc, hp.out]; simp [stepSet, c1])) Hd.out)
              go_wp2
              go_ret2
              exact ⟨PSet_mk H.out rfl, below_drewN (Below.refl _ _) _⟩
          · have hkl : k = l.length := by omega
            have H := hide (parseSet_some l s (by have := hp.out; rwa [hkl, List.take_length] at this) Hd.out)
            have Hb : Hid ((!l.isEmpty) = true) := by
              have := Hn.out
              cases l <;> simp_all [Hid]
            clear hkl
            go_wp2
            go_ret2
            refine ⟨PSet_mk (b := true) (by rw [H.out, Hb.out]) rfl, below_drewN (Below.refl _ _) _⟩

theorem shr_zero (s j : Nat) (h : s < 2 ^ j) : (((s : Int) / 2 ^ j) != 0) = false := by
  have e : ((s : Int) / 2 ^ j) = ((s / 2 ^ j : Nat) : Int) := by simp
  rw [e, Nat.div_eq_of_lt h]
  rfl
theorem shr_pos (s j : Nat) (h : ¬ s < 2 ^ j) : (((s : Int) / 2 ^ j) != 0) = true := by
  have e : ((s : Int) / 2 ^ j) = ((s / 2 ^ j : Nat) : Int) := by simp
  have : 0 < s / 2 ^ j := Nat.div_pos (by omega) (Nat.pow_pos (by omega))
  rw [e]
  simp
  omega
theorem add_step (s j : Nat) (hs : s < 64) (hj : j ≤ 5) : wrap64 ((s : Int) + wrap64 (2 ^ j)) = ((s + 2 ^ j : Nat) : Int) := by
  have hp : 2 ^ j ≤ 32 := Nat.pow_le_pow_right (n := 2) (by omega) hj
  have e : ((2 : Int) ^ j) = ((2 ^ j : Nat) : Int) := by simp
  rw [e]
  generalize 2 ^ j = q at hp
  rw [IntWalk.wrap64_in (q : Int) (by omega), IntWalk.wrap64_in _ (by omega)]
  omega

theorem parseSetS (l : List UInt8) (w : World) (hs : l.length ≤ 9223372036854775807) :
    Calls Tryz.prog 40 #[.string ⟨l.toArray⟩] w fun e w' => PSet l e ∧ Below w.heap.size w w' := by
  by_cases hd : l = [45]
  · subst hd
    go_enter Tryz.func40, Tryz.ntmps40
    go_wp2
    refine wp_loop_rounds 1 ?_
    rw [rounds_succ]
    go_wp2
    go_ret2
    exact ⟨PSet_mk parseSet_dash rfl, Below.refl _ _⟩
  · have hq : (l == [45]) = false := by simpa using hd
    have Hd := hide hd
    clear hd
    go_enter Tryz.func40, Tryz.ntmps40
    go_wp2
    go_loopw [4, 5] (fun t i wr => ∃ (k s n : Nat), k ≤ l.length ∧ i = .int .i64 k ∧ t = .int .i64 s ∧ Hid (parseTo (l.take k) = some s) ∧ wr = w.drewN n) (fun _ i _ => l.length - (intOf i).toNat)
    case atStart => exact ⟨0, 0, 0, by omega, rfl, rfl, rfl, rfl⟩
    case round =>
      obtain ⟨k, s, n, hk, rfl, rfl, hp, rfl⟩ := hrel
      by_cases hlt : k < l.length
      · obtain ⟨c, hc⟩ : ∃ c, l[k]? = some c := ⟨_, List.getElem?_eq_getElem hlt⟩
        have hts := hide (take_snoc l k c hc)
        obtain ⟨hk1, hgl⟩ := bget l k c hc
        clear hc
        have hsl := (parseTo_lt _ _ hp.out).1
        by_cases c1 : 97 ≤ c.toNat ∧ c.toNat ≤ 102
        · obtain ⟨j, hj⟩ : ∃ j, c.toNat = j + 97 := ⟨c.toNat - 97, by omega⟩
          have hj5 : j ≤ 5 := by omega
          have hin := inB_mk (x := (j : Int)) (lo := 0) (hi := 5) ⟨by omega, by omega⟩
          by_cases c3 : s < 2 ^ j
          · have Hn' : Hid (parseTo (l.take (k + 1)) = some (s + 2 ^ j)) := by
              rw [hts.out, parseTo_snoc, hp.out]
              have e : c.toNat - 97 = j := by omega
              simp [stepSet, c1, e, c3, Hid]
            have hz := shr_zero s j c3
            have Ha := hide (add_step s j hsl hj5)
            clear c1 c3
            go_wp2_with (go_at_call 47; refine (l1InS _ _ _ _).mono ?_; rintro e w' ⟨rfl, rfl⟩)
            go_roundw
            case rel => exact ⟨k + 1, s + 2 ^ j, _, by omega, by go_num, by rw [Ha.out], Hn', rfl⟩
            case measure => simp [intOf]; omega
          · have H := hide (parseSet_none l (parseTo_take_none l (k + 1) (by
              rw [hts.out, parseTo_snoc, hp.out]
              have e : c.toNat - 97 = j := by omega
              simp [stepSet, e, c3])) Hd.out)
            have hz := shr_pos s j c3
            clear c1 c3
            go_wp2_with (go_at_call 47; refine (l1InS _ _ _ _).mono ?_; rintro e w' ⟨rfl, rfl⟩)
            go_ret2
            exact ⟨PSet_mk H.out rfl, below_drewN (Below.refl _ _) _⟩
        · have H := hide (parseSet_none l (parseTo_take_none l (k + 1) (by
              rw [hts.out, parseTo_snoc, hp.out]
              have : ¬ (97 ≤ c.toNat ∧ c.toNat ≤ 102 ∧ s < 2 ^ (c.toNat - 97)) := fun h => c1 ⟨h.1, h.2.1⟩
              simp only [Option.bind_some, stepSet, if_neg this])) Hd.out)
          have hin := inB_no (x := (c.toNat : Int) - 97) (lo := 0) (hi := 5) (by omega)
          have hc5 : c.toNat < 256 := c.toNat_lt
          clear c1
          go_wp2_with (go_at_call 47; refine (l1InS _ _ _ _).mono ?_; rintro e w' ⟨rfl, rfl⟩)
          go_ret2
          exact ⟨PSet_mk H.out rfl, below_drewN (Below.refl _ _) _⟩
      · have hkl : k = l.length := by omega
        have H := hide (parseSet_some l s (by have := hp.out; rwa [hkl, List.take_length] at this) Hd.out)
        clear hkl
        by_cases hn : l = []
        · subst hn
          go_wp2
          go_ret2
          exact ⟨PSet_mk H.out rfl, below_drewN (Below.refl _ _) _⟩
        · have Hb : Hid ((!l.isEmpty) = true) := by cases l <;> simp_all [Hid]
          have he : l.isEmpty = false := by cases l <;> simp_all
          go_wp2
          go_ret2
          exact ⟨PSet_mk (b := true) (by rw [H.out, Hb.out]) rfl, below_drewN (Below.refl _ _) _⟩

theorem parseSetI2 (l : List UInt8) (w : World) (hs : l.length ≤ 9223372036854775807) : Calls Tryz.prog 37 #[.string ⟨l.toArray⟩] w fun e w' => RetNB w ((parseSet l).1 : Int) (parseSet l).2 e w' := parseSetI l w hs
theorem parseSetS2 (l : List UInt8) (w : World) (hs : l.length ≤ 9223372036854775807) : Calls Tryz.prog 40 #[.string ⟨l.toArray⟩] w fun e w' => RetNB w ((parseSet l).1 : Int) (parseSet l).2 e w' := parseSetS l w hs
end

/- Walks: ParseComplex in the program. -/
section
open Go.RowKit

def setsTo (ps : List (List UInt8)) (k : Nat) : List Int := (ps.take k).map fun p => ((parseSet p).1 : Int)
theorem setsTo_snoc {ps : List (List UInt8)} {k : Nat} {p : List UInt8} (h : ps[k]? = some p) : setsTo ps (k + 1) = setsTo ps k ++ [((parseSet p).1 : Int)] := by
  unfold setsTo
  rw [take_snoc _ _ _ h, List.map_append]
  rfl
theorem setsTo_all {ps : List (List UInt8)} {k : Nat} (h : ps.length ≤ k) : setsTo ps k = ps.map fun p => ((parseSet p).1 : Int) := by
  unfold setsTo
  rw [take_all _ _ h]
theorem setsTo_len (ps : List (List UInt8)) (k : Nat) : (setsTo ps k).length ≤ ps.length := by
  unfold setsTo
  rw [List.length_map, List.length_take]
  omega
theorem setsOk_bad {r : List UInt8} {k : Nat} {p : List UInt8} (hr : r ≠ []) (h : (splitB 44 r)[k]? = some p) (hp : (parseSet p).2 = false) : setsOk r = false := by
  unfold setsOk
  have h1 : r.isEmpty = false := by
    cases r with
    | nil => exact absurd rfl hr
    | cons _ _ => rfl
  rw [h1, Bool.false_or]
  exact List.all_eq_false.2 ⟨p, List.mem_of_getElem? h, by simp [hp]⟩
theorem setsOk_good {r : List UInt8} (h : ∀ (k : Nat) p, (splitB 44 r)[k]? = some p → (parseSet p).2 = true) : setsOk r = true := by
  unfold setsOk
  rw [Bool.or_eq_true]
  refine .inr (List.all_eq_true.2 fun p hp => ?_)
  obtain ⟨j, hj, hje⟩ := List.mem_iff_getElem.1 hp
  exact h j p (List.getElem?_eq_some_iff.2 ⟨hj, hje⟩)
theorem setsXs_ne {r : List UInt8} (hr : r ≠ []) : setsXs r = (splitB 44 r).map fun p => ((parseSet p).1 : Int) := by
  unfold setsXs
  cases r with
  | nil => exact absurd rfl hr
  | cons _ _ => rfl
theorem retCB_pno {w w' : World} {l : List UInt8} (h : pcxOk l = false) (hb : Below w.heap.size w w') : RetCB 3 w (pcxN l) (pcxXs l) (pcxOk l) (.returned (.tuple #[.agg #[.int .i64 0, .slice none 0 0], .bool false])) w' := by
  unfold pcxN pcxXs
  rw [h]
  exact ⟨_, rfl, own_nil _ _, hb⟩
theorem retCB_pyes {w w' : World} {l : List UInt8} {n : Int} {xs : List Int} (h : pcxOk l = true) (hn : headN l = n) (hx : setsXs (l.drop 2) = xs) {v : Value} (ho : OwnV 3 w' w.heap.size v (ints xs)) (hb : Below w.heap.size w w') : RetCB 3 w (pcxN l) (pcxXs l) (pcxOk l) (.returned (.tuple #[.agg #[.int .i64 n, v], .bool true])) w' := by
  unfold pcxN pcxXs
  rw [h, hn, hx]
  exact ⟨_, rfl, ho, hb⟩
/-- What the loop keeps: the box g of the complex under way, its list v, the parts. -/
structure Under7 (w0 W : World) (g : Nat) (n : Int) (xs : List Int) (pv : Value) (ps : List (List UInt8)) (v : Value) : Prop where
  box : AtC W g (.int .i64 n) v
  res : Res g W
  own : OwnV 3 W (g + 1) v (ints xs)
  parts : OwnV 9 W (g + 1) pv (strsV ps)
  apart : ∀ j, v.ownBlock = some j → pv.ownBlock ≠ some j
  below : Below g w0 W
theorem Res.grown {r : Nat} {W W' : World} {row : Option Nat} (h : Res r W) (hg : W.grownBy W' row) (hne : row ≠ some r) : Res r W' := by
  have hl := h.lt
  obtain ⟨⟨u0, u1, h0, h1⟩, f0, f1⟩ := h
  refine ⟨⟨u0, u1, hg.cell h0 (fun e => hne e.symm), hg.cell h1 (fun e => hne e.symm)⟩, ?_, ?_⟩
  · exact (World.frozen?_of_block (a := ⟨r, 0, none⟩) (w := W) (hg.block r hl (fun e => hne e.symm))).trans f0
  · exact (World.frozen?_of_block (a := ⟨r, 1, none⟩) (w := W) (hg.block r hl (fun e => hne e.symm))).trans f1
theorem own_shape56 {e : TypeId} {w : World} {B : Nat} {v : Value} {xs : List Int} (h : OwnV e w B v (ints xs)) : ∃ A n c, v = .slice A n c := by
  obtain ⟨A, c, hv, _⟩ := form_ (own_reads h)
  exact ⟨A, _, c, hv⟩
theorem Under7.to {w0 W W' : World} {g : Nat} {n : Int} {xs : List Int} {pv v : Value} {ps : List (List UInt8)} (h : Under7 w0 W g n xs pv ps v) (k : Below W.heap.size W W') : Under7 w0 W' g n xs pv ps v :=
  ⟨h.box.to k, h.res.to k, own_below h.own k, own_below h.parts k, h.apart, h.below.trans (k.mono (Nat.le_of_lt h.res.lt))⟩
/-- One set more: 'c.Facets = append(c.Facets, s)'. -/
theorem Under7.step {w0 W W' : World} {g : Nat} {n y : Int} {xs : List Int} {pv v v' : Value} {ps : List (List UInt8)} (h : Under7 w0 W g n xs pv ps v)
    (h1 : OwnV 3 W' (g + 1) v' (ints (xs ++ [y]))) (hg : W.grownBy W' v.ownBlock) (hat : v'.ownBlock = v.ownBlock ∨ v'.ownBlock = some (W.heap.size + 1)) :
    AtC W' g (.int .i64 n) v ∧ Res g W' ∧ Under7 w0 (W'.setCell ⟨g, 1, none⟩ v') g n (xs ++ [y]) pv ps v' := by
  have hne : v.ownBlock ≠ some g := fun e => by have := (own_block h.own g e).1; omega
  have hne' : ∀ j, v'.ownBlock = some j → g ≠ j := fun j hj => by have := (own_block h1 j hj).1; omega
  have hnp : ∀ j, pv.ownBlock = some j → g ≠ j := fun j hj => by have := (own_block h.parts j hj).1; omega
  have hb : AtC W' g (.int .i64 n) v := h.box.grown hg hne
  have hr : Res g W' := Res.grown h.res hg hne
  have hB : g ≤ W.heap.size := Nat.le_of_lt h.res.lt
  have hbW : Below g w0 W' := h.below.trans (grown_below hg hB (fun k hk => Nat.le_of_lt (own_block h.own k hk).1))
  refine ⟨hb, hr, ⟨?_, ?_, own_setNe h1 hne' _ _, own_setNe (own_grown h.parts hg (fun j hj e => h.apart j e hj)) hnp _ _, ?_, hbW.setCell (Nat.le_refl _) _⟩⟩
  · refine ⟨?_, ?_⟩
    · simp [go_sem, hb.1]
    · simp [go_sem, hb.2]
  · obtain ⟨⟨u0, u1, c0, c1⟩, f0, f1⟩ := hr
    refine ⟨⟨u0, v', ?_, ?_⟩, ?_, ?_⟩
    · simp [go_sem, c0]
    · simp [go_sem, c1]
    · simp [go_sem, f0]
    · simp [go_sem, f1]
  · intro j hj e
    rcases hat with h2 | h2
    · exact h.apart j (by rw [← h2]; exact hj) e
    · rw [h2] at hj
      have := Option.some.inj hj
      have := (own_block h.parts j e).2
      omega
end

/- Walks: ParseComplex in the program. -/
section
open Go.RowKit

theorem parseComplexI (l : List UInt8) (w : World) (hl : l.length ≤ 1073741000) :
    Calls Tryz.prog 7 #[.string ⟨l.toArray⟩] w fun e w' => RetCB 3 w (pcxN l) (pcxXs l) (pcxOk l) e w' := by
  obtain ⟨w1, hW1, at1, rs1, b1, z1⟩ := boxRes w 26
  have Rs1 := hide rs1
  have B1 := hide b1
  have At1 := hide at1
  have hp := parseHeadI l w1 (by omega)
  unfold PHead at hp
  have Hp := hide hp
  clear at1 rs1 b1 z1 hp
  cases hh : headB l
  · have Hh := hide hh
    have Hno : Hid (pcxOk l = false) := by show _ = _; unfold pcxOk; rw [hh]; rfl
    have Hn : Hid (headNum l = 0 ∧ headRest l = []) := by show _ ∧ _; unfold headNum headRest; rw [hh]; exact ⟨rfl, rfl⟩
    clear hh
    go_enter Tryz.func7, Tryz.ntmps7
    go_wp2_with fail
    clear hW1
    refine Calls.mono Hp.out ?_
    rw [Hh.out, Hn.out.1, Hn.out.2]
    rintro e w2 ⟨rfl, b2⟩
    obtain ⟨e2_0, e2_1⟩ := At1.out.to b2
    obtain ⟨_, f0, f1⟩ := Rs1.out.to b2
    have hr := (Rs1.out.to b2).lt
    have B2 := hide (nxt B1.out b2)
    clear b2
    go_wp2
    refine bodyPost_ret (v := .tuple #[.agg #[.int .i64 0, .slice none 0 0], .bool false]) (by simp [results, Tryz.results7, go_sem, e2_0, e2_1]) rfl ?_
    exact retCB_pno Hno.out (below_store B2.out (Nat.le_refl _) _ _)
  · have Hh := hide hh
    obtain ⟨r, hr⟩ : ∃ r, l.drop 2 = r := ⟨_, rfl⟩
    obtain ⟨n, hn⟩ : ∃ n, headN l = n := ⟨_, rfl⟩
    have Hn : Hid (headNum l = n ∧ headRest l = r) := by show _ ∧ _; unfold headNum headRest; rw [hh]; exact ⟨hn, hr⟩
    have Hok : Hid (pcxOk l = (setsOk r && isCx n (setsXs r))) := by show _ = _; unfold pcxOk; rw [hh, hr, hn]; rfl
    have Hr := hide hr
    have HN := hide hn
    have hrl : r.length ≤ 1073741000 := by rw [← hr, List.length_drop]; omega
    clear hh hr hn
    by_cases hr0 : r = []
    · subst hr0
      have Hok2 : Hid (pcxOk l = isCx n []) := by show _ = _; rw [Hok.out]; rfl
      go_enter Tryz.func7, Tryz.ntmps7
      go_wp2_with fail
      clear hW1
      refine Calls.mono Hp.out ?_
      rw [Hh.out, Hn.out.1, Hn.out.2]
      rintro e w2 ⟨rfl, b2⟩
      have At2 := hide (At1.out.to b2)
      have Rs2 := hide (Rs1.out.to b2)
      have B2 := hide (nxt B1.out b2)
      clear b2
      go_wp2_with fail
      obtain ⟨w3, hW3, at3, b3, z3⟩ := boxC w2 (.int .i64 n) (.slice none 0 0) 26
      rw [hW3]
      have At3 := hide at3
      have B3 := hide b3
      clear b3 z3 hW3
      obtain ⟨e3_0, e3_1⟩ := at3
      refine (isComplexI n _ [] w3 (ReadsV.nil_ _ _) (by simp)).mono ?_
      have HAt1 := hide (At2.out.to B3.out)
      have HRs1 := hide (Rs2.out.to B3.out)
      have HB := hide (nxt B2.out B3.out)
      cases hcx : isCx n []
      · have Hno : Hid (pcxOk l = false) := by show _ = _; rw [Hok2.out, hcx]
        clear hcx e3_0 e3_1
        rintro e w7 ⟨rfl, b7⟩
        obtain ⟨e7_0, e7_1⟩ := HAt1.out.to b7
        obtain ⟨_, f0, f1⟩ := HRs1.out.to b7
        have hr := (HRs1.out.to b7).lt
        have B7 := hide (nxt HB.out b7)
        clear b7
        go_wp2
        refine bodyPost_ret (v := .tuple #[.agg #[.int .i64 0, .slice none 0 0], .bool false]) (by simp [results, Tryz.results7, go_sem, e7_0, e7_1]) rfl ?_
        exact retCB_pno Hno.out (below_store B7.out (Nat.le_refl _) _ _)
      · have Hyes : Hid (pcxOk l = true) := by show _ = _; rw [Hok2.out, hcx]
        clear hcx e3_0 e3_1
        rintro e w7 ⟨rfl, b7⟩
        obtain ⟨e7_0, e7_1⟩ := At3.out.to b7
        obtain ⟨⟨q0, q1, h70, h71⟩, f0, f1⟩ := HRs1.out.to b7
        have hr := (HRs1.out.to b7).lt
        have hr2 := (At3.out.to b7).lt
        have Hle : Hid (w.heap.size < w2.heap.size) := Rs2.out.lt
        have Hne : Hid (w.heap.size ≠ w2.heap.size) := by have := Hle.out; show _ ≠ _; omega
        have hne2 := Hne.out
        have B7 := hide (nxt HB.out b7)
        clear b7
        go_wp2
        refine bodyPost_ret (v := .tuple #[.agg #[.int .i64 n, .slice none 0 0], .bool true]) (by simp [results, Tryz.results7, go_sem, h70, h71]) rfl ?_
        exact retCB_pyes Hyes.out HN.out (by rw [Hr.out]) (own_nil _ _) (below_store B7.out (Nat.le_refl _) _ _)
    · have hne : (r == []) = false := by simpa using hr0
      have Hr0 := hide hr0
      clear hr0
      go_enter Tryz.func7, Tryz.ntmps7
      go_wp2_with fail
      clear hW1
      refine Calls.mono Hp.out ?_
      rw [Hh.out, Hn.out.1, Hn.out.2]
      rintro e w2 ⟨rfl, b2⟩
      have At2 := hide (At1.out.to b2)
      have Rs2 := hide (Rs1.out.to b2)
      have B2 := hide (nxt B1.out b2)
      clear b2
      go_wp2_with fail
      obtain ⟨w3, hW3, at3, b3, z3⟩ := boxC w2 (.int .i64 n) (.slice none 0 0) 26
      have rs3 : Res w2.heap.size w3 := by rw [← hW3]; exact ⟨⟨_, _, World.cell?_alloc_at _ _ _ _ rfl, World.cell?_alloc_at _ _ _ _ rfl⟩, by simp [go_sem], by simp [go_sem]⟩
      rw [hW3]
      have Rs3 := hide rs3
      have At3 := hide at3
      have B3 := hide b3
      have Z3 := hide z3
      clear at3 rs3 b3 z3 hW3
      refine (splitByteI r 44 w3 (by omega)).mono ?_
      rintro e w5 ⟨pv, rfl, o5, b5⟩
      have hpl := splitB_len 44 r
      have hpart : ∀ p ∈ splitB 44 r, p.length ≤ 1073741824 := fun p hp => Nat.le_trans (splitB_part hp) (by omega)
      have Hpart := hide hpart
      have hg1 : w2.heap.size + 1 ≤ w3.heap.size := by have := Z3.out; omega
      have hU0 : Under7 w2 w5 w2.heap.size n [] pv (splitB 44 r) (.slice none 0 0) := ⟨At3.out.to b5, Rs3.out.to b5, own_nil _ _, own_mono o5 hg1, fun j hj => (nomatch (show (none : Option Nat) = some j from hj)), nxt B3.out b5⟩
      have HU0 : Hid (∃ v, Under7 w2 w5 w2.heap.size n (setsTo (splitB 44 r) 0) pv (splitB 44 r) v) := ⟨_, hU0⟩
      have hro : 0 < r.length := by
        cases r with
        | nil => exact absurd rfl Hr0.out
        | cons _ _ => simp
      obtain ⟨Ap, cp, rfl, _, _⟩ := formS_ (own_reads o5)
      clear hpart hU0 o5 b5
      generalize hps : splitB 44 r = ps at HU0 Hpart hpl
      have Hps := hide hps
      clear hps
      go_wp2_with fail
      go_loopw [9, 10, 11, 28] (fun _ _ _ i wr => ∃ k : Nat, k ≤ ps.length ∧ i = .int .i64 k ∧ Hid (∃ v, Under7 w2 wr w2.heap.size n (setsTo ps k) (.slice Ap ps.length cp) ps v) ∧ Hid (∀ (j : Nat) p, j < k → ps[j]? = some p → (parseSet p).2 = true)) (fun _ _ _ i _ => ps.length - (intOf i).toNat)
      case atStart => exact ⟨0, by omega, rfl, HU0, fun j p hj => absurd hj (Nat.not_lt_zero _)⟩
      case round =>
        obtain ⟨k, hk, rfl, hu, hgood⟩ := hrel
        obtain ⟨v, hU⟩ := hu.out
        have HU := hide hU
        clear hu
        by_cases hlt : k < ps.length
        · obtain ⟨A', c', hv', _, he⟩ := formS_ (own_reads hU.parts)
          cases hv'
          obtain ⟨b, o, p, hA, _, hp, hcell⟩ := he k hlt
          subst hA
          have hpl2 := Hpart.out p (List.mem_of_getElem? hp)
          have Hp2 := hide hp
          clear he hp hU
          cases hps2 : (parseSet p).2
          · have Hno : Hid (pcxOk l = false) := by
              show _ = _
              rw [Hok.out, setsOk_bad (p := p) (k := k) Hr0.out (by rw [Hps.out]; exact Hp2.out) hps2]
              rfl
            have Hps2 := hide hps2
            clear hps2
            go_wp2_with fail
            refine (parseSetI2 p wr (by omega)).mono ?_
            rw [Hps2.out]
            rintro e w6 ⟨rfl, b6⟩
            obtain ⟨e6_0, e6_1⟩ := (At2.out.to HU.out.below).to b6
            obtain ⟨_, f0, f1⟩ := (Rs2.out.to HU.out.below).to b6
            have hr := ((Rs2.out.to HU.out.below).to b6).lt
            have B6 := hide (nxt (nxt B2.out HU.out.below) b6)
            clear b6 hcell
            go_wp2
            refine bodyPost_ret (v := .tuple #[.agg #[.int .i64 0, .slice none 0 0], .bool false]) (by simp [results, Tryz.results7, go_sem, e6_0, e6_1]) rfl ?_
            exact retCB_pno Hno.out (below_store B6.out (Nat.le_refl _) _ _)
          · have Hps2 := hide hps2
            have Hsn := hide (setsTo_snoc Hp2.out)
            have Hgood : Hid (∀ (j : Nat) q, j < k + 1 → ps[j]? = some q → (parseSet q).2 = true) := by
              intro j q hj hq
              rcases Nat.lt_or_ge j k with h | h
              · exact hgood.out j q h hq
              · obtain rfl : j = k := by omega
                rw [Hp2.out] at hq
                cases hq
                exact Hps2.out
            have hsl := setsTo_len ps k
            clear hps2 hgood
            go_wp2_with fail
            refine (parseSetI2 p wr (by omega)).mono ?_
            rw [Hps2.out]
            rintro e w6 ⟨rfl, b6⟩
            have HU6 : Hid (Under7 w2 w6 w2.heap.size n (setsTo ps k) (.slice (some ⟨b, o, none⟩) ps.length cp) ps v) := HU.out.to b6
            have ho := HU6.out.own
            obtain ⟨e6_0, e6_1⟩ := HU6.out.box
            have hlen : (setsTo ps k).length < 17179869184 := by omega
            have hsz := HU6.out.res.lt
            have hsz' : w2.heap.size + 1 ≤ w6.heap.size := by omega
            clear b6 hcell
            go_wp2_with (at_builtin; refine wpList_appAt ho (((parseSet p).1 : Nat) : Int) Tryz.underlying24 infoI rfl _ _ rfl rfl rfl hlen hsz' ?_; intro v' w7 ho7 hb7 hg7 hat7; obtain ⟨hbx7, hrs7, hU7⟩ := HU6.out.step ho7 hg7 hat7; obtain ⟨_, hf70, hf71⟩ := hrs7; obtain ⟨hc70, hc71⟩ := hbx7; obtain ⟨A7, n7, c7, rfl⟩ := own_shape56 ho7)
            have HU7 : Hid (∃ v, Under7 w2 (w7.setCell ⟨w2.heap.size, 1, none⟩ (.slice A7 n7 c7)) w2.heap.size n (setsTo ps (k + 1)) (.slice (some ⟨b, o, none⟩) ps.length cp) ps v) := ⟨_, by rw [Hsn.out]; exact hU7⟩
            clear hU7
            go_wp2
            go_roundw
            case rel => exact ⟨k + 1, by omega, by go_num, HU7, Hgood⟩
            case measure => simp [intOf]; omega
        · have hk2 : ps.length ≤ k := by omega
          have hxs : setsTo ps k = setsXs r := by rw [setsTo_all hk2, setsXs_ne Hr0.out, Hps.out]
          have hso : setsOk r = true := setsOk_good (by rw [Hps.out]; exact fun j q hq => hgood.out j q (by have := (List.getElem?_eq_some_iff.1 hq).1; omega) hq)
          have Hok2 : Hid (pcxOk l = isCx n (setsXs r)) := by show _ = _; rw [Hok.out, hso]; rfl
          have hlx : (setsXs r).length ≤ 1073741824 := by rw [← hxs]; have := setsTo_len ps k; omega
          rw [hxs] at hU
          have HV := hide hU
          obtain ⟨Av, nv, cv, rfl⟩ := own_shape56 hU.own
          obtain ⟨e6_0, e6_1⟩ := HV.out.box
          clear hU HU hgood hxs hso
          go_wp2_with fail
          refine (isComplexI n _ (setsXs r) wr (own_reads HV.out.own) hlx).mono ?_
          have HAt1 := hide (At2.out.to HV.out.below)
          have HRs1 := hide (Rs2.out.to HV.out.below)
          have HB := hide (nxt B2.out HV.out.below)
          cases hcx : isCx n (setsXs r)
          · have Hno : Hid (pcxOk l = false) := by show _ = _; rw [Hok2.out, hcx]
            clear hcx e6_0 e6_1
            rintro e w7 ⟨rfl, b7⟩
            obtain ⟨e7_0, e7_1⟩ := HAt1.out.to b7
            obtain ⟨_, f0, f1⟩ := HRs1.out.to b7
            have hr := (HRs1.out.to b7).lt
            have B7 := hide (nxt HB.out b7)
            clear b7
            go_wp2
            refine bodyPost_ret (v := .tuple #[.agg #[.int .i64 0, .slice none 0 0], .bool false]) (by simp [results, Tryz.results7, go_sem, e7_0, e7_1]) rfl ?_
            exact retCB_pno Hno.out (below_store B7.out (Nat.le_refl _) _ _)
          · have Hyes : Hid (pcxOk l = true) := by show _ = _; rw [Hok2.out, hcx]
            clear hcx e6_0 e6_1
            rintro e w7 ⟨rfl, b7⟩
            obtain ⟨e7_0, e7_1⟩ := HV.out.box.to b7
            obtain ⟨⟨q0, q1, h70, h71⟩, f0, f1⟩ := HRs1.out.to b7
            have hr := (HRs1.out.to b7).lt
            have hr2 := (HV.out.res.to b7).lt
            have Hle : Hid (w.heap.size < w2.heap.size) := Rs2.out.lt
            have Hne : Hid (w.heap.size ≠ w2.heap.size) := by have := Hle.out; show _ ≠ _; omega
            have hne2 := Hne.out
            have HO := hide (own_below HV.out.own b7)
            have B7 := hide (nxt HB.out b7)
            clear b7
            go_wp2
            refine bodyPost_ret (v := .tuple #[.agg #[.int .i64 n, .slice Av nv cv], .bool true]) (by simp [results, Tryz.results7, go_sem, h70, h71]) rfl ?_
            refine retCB_pyes Hyes.out HN.out (by rw [Hr.out]) (own_setNe (own_setNe (own_mono HO.out (by have := Hle.out; omega)) (fun j hj => by have := (own_block HO.out j hj).1; have := Hle.out; omega) _ _) (fun j hj => by have := (own_block HO.out j hj).1; have := Hle.out; omega) _ _) (below_store B7.out (Nat.le_refl _) _ _)
end

/- Walks: the laws' helpers on lists of strings. -/
section
open Go.RowKit

theorem infoS : (Tryz.prog.info? 9).map (fun i => (i.zero, i.size, i.bytes)) = some (some (.string ⟨#[]⟩), 1, 16) := by kernel_rfl

theorem digit_step (k : Nat) : UInt8.ofNat ((48 + (k : Int) % 10)).toNat = digit (k % 10) := by
  have e : ((48 + (k : Int) % 10)).toNat = 48 + k % 10 := by omega
  rw [e]
  rfl

theorem digit_add (n : Nat) : (48 : UInt8) + UInt8.ofNat n = digit n := by
  unfold digit
  rw [UInt8.ofNat_add]
  rfl
theorem str_cons (c : UInt8) (r : List UInt8) : ((⟨#[c]⟩ : ByteArray) ++ ⟨r.toArray⟩) = ⟨(c :: r).toArray⟩ := by
  apply ByteArray.ext
  simp
/-- The texts of k, k + 1, .., n of them. -/
def smarks (k : Int) (n : Nat) : List (List UInt8) := (List.range n).map (fun (i : Nat) => markTxt (k + (i : Int)))
theorem smarks_len (k : Int) (n : Nat) : (smarks k n).length = n := by simp [smarks]
theorem smarks_succ (k : Int) (n : Nat) : smarks k (n + 1) = smarks k n ++ [markTxt (k + (n : Int))] := by simp [smarks, List.range_succ]
theorem smarks_get (k : Int) (n i : Nat) (h : i < n) : (smarks k n)[i]? = some (markTxt (k + (i : Int))) := by simp [smarks, h]
theorem smarked_set (k : Int) (xs : List (List UInt8)) (i : Nat) (h : i < xs.length) : (smarks k i ++ xs.drop i).set i (markTxt (k + (i : Int))) = smarks k (i + 1) ++ xs.drop (i + 1) := by
  rw [List.set_append_right _ _ (by rw [smarks_len]; omega), smarks_len, Nat.sub_self, List.drop_eq_getElem_cons h, List.set_cons_zero, smarks_succ]
  simp
theorem smarked_len (k : Int) (xs : List (List UInt8)) (i : Nat) (h : i ≤ xs.length) : (smarks k i ++ xs.drop i).length = xs.length := by
  simp [smarks_len]; omega
end

/- Walks: FormatInt in the reference (from naught on; below naught: to be done). -/
section
open Go.RowKit

theorem dec_len_pow : ∀ (d m : Nat), m < 10 ^ d → (dec m).length ≤ d
  | 0, m, h => by
    obtain rfl : m = 0 := by omega
    rw [dec_zero]
    exact Nat.le_refl _
  | d + 1, m, h => by
    by_cases h0 : 0 < m
    · have ih := dec_len_pow d (m / 10) (by rw [Nat.pow_succ] at h; omega)
      rw [dec_pos h0, List.length_append]
      simp only [List.length_cons, List.length_nil]
      omega
    · obtain rfl : m = 0 := by omega
      rw [dec_zero]
      exact Nat.zero_le _
theorem formatPosS (m : Nat) (w : World) (h0 : 0 < m) (hk : m ≤ 9223372036854775807) : Calls Tryz.prog 65 #[.int .i64 (m : Int)] w fun e w' => RetS w (dec m) e w' := by
  have hcv := conv1 (P := Tryz.prog) (src := 22) (dst := 9) Tryz.underlying22 Tryz.underlying5 Tryz.underlying9
  have hne : ((m : Int) == 0) = false := by rw [beq_eq_false_iff_ne]; omega
  go_enter Tryz.func65, Tryz.ntmps65
  go_wp2
  go_loopw [0, 4, 5] (fun i t _ wr => ∃ (j : Nat) (r : List UInt8), j ≤ m ∧ i = .int .i64 j ∧ t = .string ⟨r.toArray⟩ ∧ Hid (dec m = dec j ++ r) ∧ Below w.heap.size w wr) (fun i _ _ _ => (intOf i).toNat)
  case atStart => exact ⟨m, [], by omega, rfl, rfl, by simp [Hid], Below.refl _ _⟩
  case round =>
    obtain ⟨j, r, hj, rfl, rfl, hd, hb⟩ := hrel
    by_cases hlt : 0 < j
    · have Hd : Hid (dec m = dec (j / 10) ++ (digit (j % 10) :: r)) := by rw [hd.out, dec_pos hlt]; simp [Hid]
      have hnz : ((j : Int) != 0) = true := by rw [bne_iff_ne]; omega
      have hrl : r.length < 9223372036854775807 := by
        have h1 := congrArg List.length hd.out
        have h2 := dec_len_pow 19 m (by omega)
        rw [dec_pos hlt] at h1
        simp at h1
        omega
      have hdv : j / 10 < j := Nat.div_lt_self (by omega) (by omega)
      have hmn : 0 ≤ (j : Int) % 10 := by omega
      have hml : decide ((j : Int) % 10 < 0) = false := decide_eq_false (by omega)
      go_wp2
      go_roundw
      case rel =>
        refine ⟨j / 10, digit (j % 10) :: r, by omega, by go_num, ?_, Hd, hb.alloc hb.size _⟩
        rw [str_cons, digit_add]
      case measure => simp [intOf]; omega
    · obtain rfl : j = 0 := by omega
      go_wp2
      go_ret
      refine ⟨?_, hb⟩
      rw [hd.out, dec_zero, List.nil_append]
      rfl

theorem formatNegS (m : Nat) (w : World) (h0 : 0 < m) (hk : m ≤ 9223372036854775808) : Calls Tryz.prog 65 #[.int .i64 (-(m : Int))] w fun e w' => RetS w (45 :: dec m) e w' := by
  have hcv := conv1 (P := Tryz.prog) (src := 22) (dst := 9) Tryz.underlying22 Tryz.underlying5 Tryz.underlying9
  have hne : ((-(m : Int)) == 0) = false := by rw [beq_eq_false_iff_ne]; omega
  have hlt0 : decide (-(m : Int) < 0) = true := decide_eq_true (by omega)
  go_enter Tryz.func65, Tryz.ntmps65
  go_wp2
  go_loopw [0, 4, 5] (fun i t _ wr => ∃ (j : Nat) (r : List UInt8), j ≤ m ∧ i = .int .i64 (-(j : Int)) ∧ t = .string ⟨r.toArray⟩ ∧ Hid (dec m = dec j ++ r) ∧ Below w.heap.size w wr) (fun i _ _ _ => (intOf i).natAbs)
  case atStart => exact ⟨m, [], by omega, rfl, rfl, by simp [Hid], Below.refl _ _⟩
  case round =>
    obtain ⟨j, r, hj, rfl, rfl, hd, hb⟩ := hrel
    by_cases hlt : 0 < j
    · have Hd : Hid (dec m = dec (j / 10) ++ (digit (j % 10) :: r)) := by rw [hd.out, dec_pos hlt]; simp [Hid]
      have hnz : ((-(j : Int)) != 0) = true := by rw [bne_iff_ne]; omega
      have hrl : r.length < 9223372036854775807 := by
        have h1 := congrArg List.length hd.out
        have h2 := dec_len_pow 19 m (by omega)
        rw [dec_pos hlt] at h1
        simp at h1
        omega
      have hdv : j / 10 < j := Nat.div_lt_self (by omega) (by omega)
      have htm : (-(j : Int)).tmod 10 = -((j % 10 : Nat) : Int) := by rw [Int.neg_tmod]; rfl
      have htd : (-(j : Int)).tdiv 10 = -((j / 10 : Nat) : Int) := by rw [Int.neg_tdiv]; rfl
      by_cases hd0 : j % 10 = 0
      · have hml : decide (-((j % 10 : Nat) : Int) < 0) = false := decide_eq_false (by omega)
        go_wp2
        go_roundw
        case rel =>
          refine ⟨j / 10, digit (j % 10) :: r, by omega, by go_num, ?_, Hd, hb.alloc hb.size _⟩
          rw [str_cons, hd0]
          rfl
        case measure => simp [intOf]; omega
      · have hml : decide (-((j % 10 : Nat) : Int) < 0) = true := decide_eq_true (by omega)
        go_wp2
        go_roundw
        case rel =>
          refine ⟨j / 10, digit (j % 10) :: r, by omega, by go_num, ?_, Hd, hb.alloc hb.size _⟩
          rw [str_cons, digit_add]
        case measure => simp [intOf]; omega
    · obtain rfl : j = 0 := by omega
      have hrl : r.length ≤ 9223372036854775806 := by
        have h1 := congrArg List.length hd.out
        have h2 := dec_len_pow 19 m (by omega)
        rw [dec_zero, List.nil_append] at h1
        omega
      go_wp2
      go_ret
      refine ⟨?_, hb⟩
      rw [hd.out, dec_zero, List.nil_append, ← str_cons]
      rfl

theorem formatIntS (n : Int) (w : World) (hk : -9223372036854775808 ≤ n ∧ n ≤ 9223372036854775807) : Calls Tryz.prog 65 #[.int .i64 n] w fun e w' => RetS w (fmtZ n) e w' := by
  rcases Int.lt_trichotomy n 0 with h | h | h
  · obtain ⟨m, rfl⟩ : ∃ m : Nat, n = -(m : Int) := ⟨n.natAbs, by omega⟩
    have e : fmtZ (-(m : Int)) = 45 :: dec m := by
      unfold fmtZ
      rw [if_neg (by omega), if_pos h, show (-(m : Int)).natAbs = m by omega]
    rw [e]
    exact formatNegS m w (by omega) (by omega)
  · subst h
    go_enter Tryz.func65, Tryz.ntmps65
    go_wp2
    go_ret
    exact ⟨rfl, Below.refl _ _⟩
  · obtain ⟨m, rfl⟩ := Int.eq_ofNat_of_zero_le (by omega : 0 ≤ n)
    have e : fmtZ (m : Int) = dec m := by
      unfold fmtZ
      rw [if_neg (by omega), if_neg (by omega), Int.natAbs_natCast]
    rw [e]
    exact formatPosS m w (by omega) (by omega)
end
end Go.Proofs.YtmkacjpjcfffmabGreatDoor
