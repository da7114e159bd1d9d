/- Walks: DrawSplitByte, big; the plain law of splitting and joining. -/
import Derived.Test.YtmkacjpjcfffmaaDoorW60
import Derived.Test.YtmkacjpjcfffmaaDoorW50
import Derived.Test.YtmkacjpjcfffmaaDoorSplit
import Derived.Test.YtmkacjpjcfffmaaDoorMathParse
namespace Go.Proofs.YtmkacjpjcfffmaaDoor
open Go.RowKit

theorem join_cons2 (x y : List UInt8) (r : List (List UInt8)) (sep : List UInt8) : Lib.join (x :: y :: r) sep = x ++ sep ++ Lib.join (y :: r) sep := by
  rw [Lib.join_cons, Lib.join_cons]
  simp [Lib.joinTail, List.append_assoc]
theorem split_join (b : UInt8) : ∀ (n : Nat) (l : List UInt8), l.length ≤ n → Lib.join (splitB b l) [b] = l ∧ ∀ p ∈ splitB b l, b ∉ p
  | n, l, h => by
    by_cases hb : b ∈ l
    · obtain ⟨p, q, rfl, hp⟩ := first_at hb
      rw [splitB_cons hp]
      have hl : q.length < n := by simp at h; omega
      obtain ⟨h1, h2⟩ := split_join b (n - 1) q (by omega)
      have hne := splitB_ne b q
      constructor
      · cases hs : splitB b q with
        | nil => rw [hs] at hne; simp at hne
        | cons x r =>
          rw [hs] at h1
          rw [join_cons2, h1]
          simp
      · intro x hx
        rcases List.mem_cons.1 hx with rfl | hx
        · exact hp
        · exact h2 x hx
    · rw [splitB_none hb]
      refine ⟨Lib.join_one l [b], fun p hp => ?_⟩
      have : p = l := by simpa using hp
      rw [this]
      exact hb
termination_by n _ _ => n
decreasing_by omega
theorem lens_le {m : Nat} : ∀ {ls : List (List UInt8)}, (∀ p ∈ ls, p.length ≤ m) → Lib.lens ls ≤ m * ls.length
  | [], _ => by simp [Lib.lens]
  | x :: r, h => by
    have h1 := lens_le (ls := r) (fun p hp => h p (by simp [hp]))
    have h2 := h x (by simp)
    have e : Lib.lens (x :: r) = x.length + Lib.lens r := by simp [Lib.lens]
    rw [e, List.length_cons, Nat.mul_add, Nat.mul_one]
    omega
theorem bigS (v : Value) (L : List UInt8) (w : World) (h : BytesAt w w.heap.size v L) :
    Calls Tryd.prog 13 #[v] w fun e w' => e = .returned (.bool (decide (1048576 < (L.length : Int)))) ∧ w = w' := by
  obtain ⟨A, c, hv, hc, _⟩ := h
  have hl : (bytesV L).length = L.length := List.length_map _
  rw [hl] at hv hc
  subst hv
  go_enter Tryd.func13, Tryd.ntmps13
  go_wp2
  go_ret
  exact ⟨rfl, rfl⟩
theorem own_lit (e : TypeId) (w : World) (cs : Array Value) (h : cs.size ≤ 1048576) : OwnV e (w.alloc (.cells cs e)) w.heap.size (.slice (some ⟨w.heap.size, 0, none⟩) cs.size cs.size) cs.toList := by
  have := World.ownsRow_lit (size := 1) (e := e) (base := w.heap.size) w cs cs.size (Nat.le_refl _) (by unfold maxLen; omega) (by omega)
  show (w.alloc (.cells cs e)).ownsRow w.heap.size e 1 _ cs.toList.length cs.toList
  rw [Array.length_toList]
  exact this
theorem CurAt.low {B : Nat} {W W' : World} {p : Nat} {v : Value} {L : List UInt8} (h : CurAt W p v L) (hp : p < B) (k : Below B W W') : CurAt W' p v L := by
  obtain ⟨⟨i, x, i0, i1, h0, h1, h2⟩, f1, f2, hr⟩ := h
  obtain ⟨hc, hf⟩ := bcell k
  exact ⟨⟨i, x, i0, i1, (hc p 0 hp).trans h0, (hc p 1 hp).trans h1, (hc p 2 hp).trans h2⟩, (hf p 1 hp).trans f1, (hf p 2 hp).trans f2, hr.keep fun b o hb => hc b o (by omega)⟩
theorem grown_of_below {W a b : World} {row : Option Nat} (h : W.grownBy a row) (k : Below W.heap.size a b) : W.grownBy b row :=
  ⟨k.os.trans h.os, k.tape.trans h.tape, k.output.trans h.output, Nat.le_trans h.size k.size, fun i hi hne => (k.block i hi).trans (h.block i hi hne)⟩
/-- What a draw leaves of old memory. -/
theorem cur_below {B : Nat} {w W W' : World} {p : Nat} (h : Below B w W) (hz : B ≤ W.heap.size) (g : W.grownBy W' (some p)) (hp : B ≤ p) : Below B w W' :=
  h.trans (grown_below g hz (fun k hk => by cases hk; exact hp))

theorem lit_strs (w : World) (ls : List (List UInt8)) (T : TypeId) (h : ls.length ≤ 1048576) : StrsAt (w.alloc (.cells (strsV ls).toArray T)) (w.alloc (.cells (strsV ls).toArray T)).heap.size (.slice (some ⟨w.heap.size, 0, none⟩) ls.length ls.length) ls := by
  have h1 := own_reads (own_lit T w (strsV ls).toArray (by simpa using h))
  have e : (strsV ls).toArray.size = ls.length := by simp
  rw [e] at h1
  simpa using h1
theorem lit_ints (w : World) (xs : List Int) (T : TypeId) (h : xs.length ≤ 1048576) : IntsAt (w.alloc (.cells (ints xs).toArray T)) (w.alloc (.cells (ints xs).toArray T)).heap.size (.slice (some ⟨w.heap.size, 0, none⟩) xs.length xs.length) xs := by
  have h1 := own_reads (own_lit T w (ints xs).toArray (by simpa using h))
  have e : (ints xs).toArray.size = xs.length := by simp
  rw [e] at h1
  simpa using h1
theorem grown_of_alloc {w W' : World} {o : Obj} {row : Option Nat} (h : (w.alloc o).grownBy W' row) : w.grownBy W' row := grown_trans (World.grownBy_alloc w o row) h
/-- A pick out of a literal list: behind it the cursor has moved and new memory lies. -/
theorem pickLitS (p : Nat) (v : Value) (L : List UInt8) (ls : List (List UInt8)) (T : TypeId) (W : World) (h : CurAt W p v L) (hL : L.length ≤ 1073741824) (h0 : 0 < ls.length) (h1 : ls.length ≤ 1048576) :
    Calls Tryd.prog 31 #[.pointer (some ⟨p, 0, none⟩), .slice (some ⟨W.heap.size, 0, none⟩) ls.length ls.length] (W.alloc (.cells (strsV ls).toArray T)) fun e W' => ∃ l : List UInt8, l ∈ ls ∧ e = .returned (.string ⟨l.toArray⟩) ∧ CurAt W' p v L ∧ W.grownBy W' (some p) := by
  have hl := h.lt
  refine (l1PickS p v L _ ls _ (h.to (below_alloc _ _)) hL (lit_strs W ls T h1) h0 h1 (fun j hj => ?_) (fun b o n c e => ?_)).mono fun _ _ ⟨l, h1, h2, h3, h4⟩ => ⟨l, h1, h2, h3, grown_of_alloc h4⟩
  · have : some W.heap.size = some j := hj
    have := Option.some.inj this
    omega
  · cases e
    omega
theorem pickLitIntS (p : Nat) (v : Value) (L : List UInt8) (xs : List Int) (T : TypeId) (W : World) (h : CurAt W p v L) (hL : L.length ≤ 1073741824) (h0 : 0 < xs.length) (h1 : xs.length ≤ 1048576) :
    Calls Tryd.prog 43 #[.pointer (some ⟨p, 0, none⟩), .slice (some ⟨W.heap.size, 0, none⟩) xs.length xs.length] (W.alloc (.cells (ints xs).toArray T)) fun e W' => ∃ x : Int, x ∈ xs ∧ e = .returned (.int .i64 x) ∧ CurAt W' p v L ∧ W.grownBy W' (some p) := by
  have hl := h.lt
  refine (l1PickIntS p v L _ xs _ (h.to (below_alloc _ _)) hL (lit_ints W xs T h1) h0 h1 (fun b o n c e => ?_)).mono fun _ _ ⟨x, h1, h2, h3, h4⟩ => ⟨x, h1, h2, h3, grown_of_alloc h4⟩
  cases e
  omega

end Go.Proofs.YtmkacjpjcfffmaaDoor
