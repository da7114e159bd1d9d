/- Walks: the laws' helpers on complexes: copies, sizes, comparing, marking. -/
import Derived.Test.YtmkacjpjcfffmaaDoorW2
namespace Go.Proofs.YtmkacjpjcfffmaaDoor
open Go.RowKit

theorem szIntS_any (v : Value) (xs : List Int) (left : Int) (w : World) (h : IntsAt w w.heap.size v xs) (hl : xs.length ≤ 9223372036854775807) (h0 : 0 ≤ left) (h1 : left ≤ 1048576) :
    Calls Tryd.prog 20 #[v, .int .i64 left] w fun e w' => e = .returned (.int .i64 (if left < xs.length then -1 else left - xs.length)) ∧ w = w' := by
  obtain ⟨A, c, rfl, hc, _⟩ := form_ h
  clear h
  by_cases hlt : left < xs.length
  · rw [if_pos hlt]
    go_enter Tryd.func20, Tryd.ntmps20
    go_wp2
    go_ret
    exact ⟨rfl, rfl⟩
  · rw [if_neg hlt]
    have hge : xs.length ≤ left := by omega
    clear hlt
    go_enter Tryd.func20, Tryd.ntmps20
    go_wp2
    go_ret
    exact ⟨rfl, rfl⟩

theorem copied_set (xs : List Int) (i : Nat) (x : Int) (h : xs[i]? = some x) : (xs.take i ++ List.replicate (xs.length - i) 0).set i x = xs.take (i + 1) ++ List.replicate (xs.length - (i + 1)) 0 := by
  have hl := (List.getElem?_eq_some_iff.1 h).1
  have ht : (xs.take i).length = i := by rw [List.length_take]; omega
  rw [List.set_append_right _ _ (by omega), ht, Nat.sub_self, show xs.length - i = (xs.length - (i + 1)) + 1 by omega, List.replicate_succ, List.set_cons_zero, take_snoc _ _ _ h]
  simp
theorem copied_len (xs : List Int) (i : Nat) (h : i ≤ xs.length) : (xs.take i ++ List.replicate (xs.length - i) (0 : Int)).length = xs.length := by
  rw [List.length_append, List.length_take, List.length_replicate]
  omega
theorem toIntS_any (v : Value) (xs : List Int) (w : World) (h : IntsAt w w.heap.size v xs) (hl : xs.length ≤ 1073741824) :
    Calls Tryd.prog 23 #[v] w fun e w' => RetI 3 w xs e w' := by
  obtain ⟨A, c, rfl, hc, he⟩ := form_ h
  have He := hide he
  clear h he
  go_enter Tryd.func23, Tryd.ntmps23
  go_wp2_with (at_make; refine wpList_makeV (.int .i64 0) 8 xs.length Tryd.underlying24 infoI rfl (by decide) (by omega) rfl _ _ rfl rfl rfl ?_; intro w1 hown1 hb1)
  have hown : OwnV 3 w1 w.heap.size (.slice (some ⟨w.heap.size, 0, none⟩) xs.length xs.length) (ints (xs.take 0 ++ List.replicate (xs.length - 0) 0)) := by simpa [ints] using hown1
  have Hown := hide hown
  have Hb1 := hide hb1
  clear hown hown1 hb1
  go_loopw [4] (fun i wr => ∃ k : Nat, k ≤ xs.length ∧ i = .int .i64 k ∧ OwnV 3 wr w.heap.size (.slice (some ⟨w.heap.size, 0, none⟩) xs.length xs.length) (ints (xs.take k ++ List.replicate (xs.length - k) 0)) ∧ Below w.heap.size w wr) (fun i _ => xs.length - (intOf i).toNat)
  case atStart => exact ⟨0, by omega, rfl, Hown.out, Hb1.out⟩
  case round =>
    obtain ⟨k, hk, rfl, hown, hb⟩ := hrel
    by_cases hlt : k < xs.length
    · obtain ⟨b, o, x, rfl, hbb, hx, hcx0⟩ := He.out k hlt
      have hcx : wr.cell? ⟨b, o + k, none⟩ = some (.int .i64 x) := (hb.cell (p := ⟨b, o + k, none⟩) hbb).trans hcx0
      have hcl := copied_len xs k hk
      have hcs := copied_set xs k x hx
      have hvv : Value.slice (some ⟨w.heap.size, 0, none⟩) xs.length xs.length = .slice (some ⟨w.heap.size, 0, none⟩) (ints (xs.take k ++ List.replicate (xs.length - k) 0)).length xs.length := by rw [ints_length, hcl]
      obtain ⟨u, hu⟩ : ∃ u, (ints (xs.take k ++ List.replicate (xs.length - k) 0))[k]? = some u := ⟨_, List.getElem?_eq_getElem (by rw [ints_length, hcl]; omega)⟩
      obtain ⟨hc1, hf1⟩ := own_cell hown hvv hu
      have hset := own_set hown hvv k (.int .i64 x)
      have es : (ints (xs.take k ++ List.replicate (xs.length - k) 0)).set k (.int .i64 x) = ints (xs.take (k + 1) ++ List.replicate (xs.length - (k + 1)) 0) := by rw [← hcs]; simp [ints, List.map_set]
      rw [es] at hset
      have Hs := hide hset
      have Hb : Hid (Below w.heap.size w (wr.setCell ⟨w.heap.size, k, none⟩ (.int .i64 x))) := hb.setCell (by exact Nat.le_refl _) _
      clear hset es hvv hu hown hb hcl hcs hx hcx0
      go_wp2
      go_roundw
      case rel => exact ⟨k + 1, by omega, by go_num, Hs.out, Hb.out⟩
      case measure => simp [intOf]; omega
    · have hk2 := hide (show k = xs.length by omega)
      have hge : xs.length ≤ k := by omega
      go_wp2
      go_ret
      refine ⟨_, rfl, ?_, hb⟩
      have := hown
      rw [take_all _ _ hge, show xs.length - k = 0 by omega, List.replicate_zero, List.append_nil] at this
      exact this

theorem szComplex_any (n : Int) (v : Value) (xs : List Int) (left : Int) (w : World) (h : IntsAt w w.heap.size v xs) (hl : xs.length ≤ 9223372036854775807) (h0 : 0 ≤ left) (h1 : left ≤ 1048576) :
    Calls Tryd.prog 8 #[.agg #[.int .i64 n, v], .int .i64 left] w fun e w' => RetN w (if left < xs.length then -1 else left - xs.length) e w' := by
  have h2 := ReadsV.alloc h (.cells #[.int .i64 n, v] 26)
  obtain ⟨A, c, rfl, _, _⟩ := form_ h
  clear h
  by_cases hlt : left < xs.length
  · rw [if_pos hlt]
    go_enter Tryd.func8, Tryd.ntmps8
    go_wp2_with fail
    refine (szIntS_any _ xs left _ h2 hl h0 h1).mono ?_
    rw [if_pos hlt]
    rintro e w' ⟨rfl, rfl⟩
    go_wp2
    go_ret
    exact ⟨rfl, below_alloc _ _⟩
  · rw [if_neg hlt]
    have hge : xs.length ≤ left := by omega
    clear hlt
    go_enter Tryd.func8, Tryd.ntmps8
    go_wp2_with fail
    refine (szIntS_any _ xs left _ h2 hl h0 h1).mono ?_
    rw [if_neg (by omega)]
    rintro e w' ⟨rfl, rfl⟩
    go_wp2
    go_ret
    exact ⟨rfl, below_alloc _ _⟩

/-- The call returns a complex whose facets are its own. -/
def RetC (e0 : TypeId) (w : World) (n : Int) (xs : List Int) (e : Ending) (w' : World) : Prop := ∃ v, e = .returned (.agg #[.int .i64 n, v]) ∧ OwnV e0 w' w.heap.size v (ints xs) ∧ Below w.heap.size w w'
theorem toComplex_any (n : Int) (v : Value) (xs : List Int) (w : World) (h : IntsAt w w.heap.size v xs) (hl : xs.length ≤ 1073741824) :
    Calls Tryd.prog 10 #[.agg #[.int .i64 n, v]] w fun e w' => RetC 3 w n xs e w' := by
  have h2 := ReadsV.alloc h (.cells #[.int .i64 n, v] 26)
  obtain ⟨A, c, rfl, _, _⟩ := form_ h
  go_enter Tryd.func10, Tryd.ntmps10
  go_wp2_with fail
  refine (toIntS_any _ xs _ (ReadsV.on h ?_ (Nat.le_refl _) (Nat.le_refl _)) hl).mono ?_
  · go_grown
  rintro e w1 ⟨v', rfl, hown, hb⟩
  obtain ⟨A', c', rfl⟩ := own_shape hown
  obtain ⟨ho, hfar⟩ := own_far (C := w.heap.size + 3) (D := w.heap.size) hown (by (try simp only [World.size_alloc]); omega) (by (try simp only [World.size_alloc]); omega)
  have Ho := hide ho
  have Hfar := hide hfar
  have Hb : Hid (Below w.heap.size w w1) := (((below_alloc w _).alloc (by (try simp only [World.size_alloc]); omega) _).alloc (by (try simp only [World.size_alloc]); omega) _).trans (hb.mono (by (try simp only [World.size_alloc]); omega))
  obtain ⟨hc, hf⟩ := bcell hb
  have hz := hb.size
  simp only [World.size_alloc] at hz
  clear hown hb ho hfar h h2
  go_wp2
  refine bodyPost_ret (v := .agg #[.int .i64 n, .slice A' xs.length c']) (by simp [results, Tryd.results10, go_sem, hc]) rfl ?_
  refine ⟨_, rfl, ?_, ?_⟩
  · exact own_setNe (own_setNe (own_setNe Ho.out (fun k hk => by have := Hfar.out k hk; omega) _ _) (fun k hk => by have := Hfar.out k hk; omega) _ _) (fun k hk => by have := Hfar.out k hk; omega) _ _
  · have hbw := Hb.out
    go_grown

theorem eqComplex_any (n1 n2 : Int) (v1 v2 : Value) (xs ys : List Int) (w : World) (h1 : IntsAt w w.heap.size v1 xs) (h2 : IntsAt w w.heap.size v2 ys) (hl1 : xs.length ≤ 1073741824) (hl2 : ys.length ≤ 1073741824) :
    Calls Tryd.prog 12 #[.agg #[.int .i64 n1, v1], .agg #[.int .i64 n2, v2]] w fun e w' => RetB w (decide (n1 = n2) && decide (xs = ys)) e w' := by
  obtain ⟨A1, c1, rfl⟩ := reads_shape h1
  obtain ⟨A2, c2, rfl⟩ := reads_shape h2
  have H1 := hide h1
  have H2 := hide h2
  clear h1 h2
  by_cases hn : n1 = n2
  · subst hn
    have hne : (n1 != n1) = false := by simp
    go_enter Tryd.func12, Tryd.ntmps12
    go_wp2_with fail
    refine (eqIntS_any _ _ xs ys _ (ReadsV.on H1.out (X := w.heap.size) ?_ (Nat.le_refl _) (Nat.le_refl _)) (ReadsV.on H2.out (X := w.heap.size) ?_ (Nat.le_refl _) (Nat.le_refl _)) hl1 hl2).mono ?_
    · go_grown
    · go_grown
    rintro e w1 ⟨rfl, hb⟩
    have hbw : Below w.heap.size w w1 := ((below_alloc w _).alloc (by (try simp only [World.size_alloc]); omega) _).trans (hb.mono (by (try simp only [World.size_alloc]); omega))
    have Hbw := hide hbw
    clear hb hbw
    by_cases hxy : xs = ys
    · have hd : decide (xs = ys) = true := decide_eq_true hxy
      have Hd := hide hd
      clear hxy
      go_wp2
      go_ret
      exact ⟨ret_bool (by rw [Hd.out]; simp), Hbw.out⟩
    · have hd : decide (xs = ys) = false := decide_eq_false hxy
      have Hd := hide hd
      clear hxy
      go_wp2
      go_ret
      exact ⟨ret_bool (by rw [Hd.out]; simp), Hbw.out⟩
  · have hne : (n1 != n2) = true := by simpa using hn
    have Hn := hide hn
    clear hn
    go_enter Tryd.func12, Tryd.ntmps12
    go_wp2
    go_ret
    refine ⟨ret_bool ?_, ?_⟩
    · rw [decide_eq_false Hn.out]
      rfl
    · go_grown

theorem eqComplex_same (n : Int) (v1 v2 : Value) (xs : List Int) (w : World) (h1 : IntsAt w w.heap.size v1 xs) (h2 : IntsAt w w.heap.size v2 xs) (hl : xs.length ≤ 1073741824) :
    Calls Tryd.prog 12 #[.agg #[.int .i64 n, v1], .agg #[.int .i64 n, v2]] w fun e w' => RetB w true e w' := by
  have h := eqComplex_any n n v1 v2 xs xs w h1 h2 hl hl
  rwa [show (decide (n = n) && decide (xs = xs)) = true by simp] at h

end Go.Proofs.YtmkacjpjcfffmaaDoor
