/- Walks: parseHead in the program. -/
import Derived.Test.YtmkacjpjcfffmaaW1
import Derived.Test.YtmkacjpjcfffmaaMathParse
import Derived.Test.YtmkacjpjcfffmaaW33
namespace Go.Proofs.Ytmkacjpjcfffmaa
open Go.RowKit

def headRest (l : List UInt8) : List UInt8 := if headB l then l.drop 2 else []
def headNum (l : List UInt8) : Int := if headB l then headN l else 0
def PHead (w : World) (l : List UInt8) (e : Ending) (w' : World) : Prop := e = .returned (.tuple #[.int .i64 (headNum l), .string ⟨(headRest l).toArray⟩, .bool (headB l)]) ∧ Below w.heap.size w w'
theorem pHead_no {w w' : World} {l : List UInt8} (h : headB l = false) (hb : Below w.heap.size w w') : PHead w l (.returned (.tuple #[.int .i64 0, .string ⟨#[]⟩, .bool false])) w' := by
  unfold PHead headNum headRest
  rw [h]
  exact ⟨rfl, hb⟩
theorem headB_cons {c d : UInt8} {r : List UInt8} : headB (c :: d :: r) = decide (49 ≤ c.toNat ∧ c.toNat ≤ 54 ∧ d = 58) := rfl
theorem parseHeadI (l : List UInt8) (w : World) (hl : l.length ≤ 1073741824) :
    Calls Try.prog 108 #[.string ⟨l.toArray⟩] w fun e w' => PHead w l e w' := by
  by_cases hlen : 2 ≤ l.length
  · match l, hlen with
    | c :: d :: r, hlen =>
      have hll : (c :: d :: r : List UInt8).length = r.length + 2 := rfl
      obtain ⟨hk0, hg0⟩ := bget (c :: d :: r) 0 c rfl
      obtain ⟨hk1, hg1⟩ := bget (c :: d :: r) 1 d rfl
      by_cases h1 : 49 ≤ c.toNat
      · by_cases h2 : c.toNat ≤ 54
        · by_cases h3 : d = 58
          · subst h3
            have Hh : Hid (headB (c :: 58 :: r) = true) := by show _ = _; rw [headB_cons]; exact decide_eq_true ⟨h1, h2, rfl⟩
            have hx : (⟨(c :: 58 :: r).toArray⟩ : ByteArray).extract 2 (r.length + 2) = ⟨r.toArray⟩ := by
              rw [cut_eq33]
              simp
            have hsub : IntKind.u8.wrap ((c.toNat : Int) - 48) = (c.toNat : Int) - 48 := IntWalk.u8_in _ (by omega)
            go_enter Try.func108, Try.ntmps108
            go_wp2
            go_quiet (fail)
            go_wp2
            refine bodyPost_ret (v := .tuple #[.int .i64 ((c.toNat : Int) - 48), .string ⟨r.toArray⟩, .bool true]) (by simp [results, Try.results108, go_sem]) rfl ?_
            unfold PHead headNum headRest
            rw [Hh.out]
            exact ⟨rfl, below_drewN (Below.refl _ _) _⟩
          · have Hh : Hid (headB (c :: d :: r) = false) := by show _ = _; rw [headB_cons]; exact decide_eq_false (fun h => h3 h.2.2)
            have hd : ((d.toNat : Int) == 58) = false := by
              rw [beq_eq_false_iff_ne]
              intro e
              have h5 : d.toNat = 58 := by omega
              have h6 : UInt8.ofNat d.toNat = UInt8.ofNat 58 := by rw [h5]
              exact h3 (by simpa using h6)
            have hd2 : ((d.toNat : Int) != 58) = true := by rw [bne, hd]; rfl
            clear h3 hd
            go_enter Try.func108, Try.ntmps108
            go_wp2
            refine bodyPost_ret (v := .tuple #[.int .i64 0, .string ⟨#[]⟩, .bool false]) (by simp [results, Try.results108, go_sem]) rfl ?_
            exact pHead_no Hh.out (Below.refl _ _)
        · have Hh : Hid (headB (c :: d :: r) = false) := by show _ = _; rw [headB_cons]; exact decide_eq_false (fun h => h2 h.2.1)
          have h2' : 54 < c.toNat := by omega
          clear h2
          go_enter Try.func108, Try.ntmps108
          go_wp2
          refine bodyPost_ret (v := .tuple #[.int .i64 0, .string ⟨#[]⟩, .bool false]) (by simp [results, Try.results108, go_sem]) rfl ?_
          exact pHead_no Hh.out (Below.refl _ _)
      · have Hh : Hid (headB (c :: d :: r) = false) := by show _ = _; rw [headB_cons]; exact decide_eq_false (fun h => h1 h.1)
        have h1' : c.toNat < 49 := by omega
        clear h1
        go_enter Try.func108, Try.ntmps108
        go_wp2
        refine bodyPost_ret (v := .tuple #[.int .i64 0, .string ⟨#[]⟩, .bool false]) (by simp [results, Try.results108, go_sem]) rfl ?_
        exact pHead_no Hh.out (Below.refl _ _)
  · have Hh : Hid (headB l = false) := by
      show _ = _
      match l, hlen with
      | [], _ => rfl
      | [c], _ => rfl
      | c :: d :: r, hlen => exact absurd (by simp) hlen
    have h2 : l.length < 2 := by omega
    clear hlen
    go_enter Try.func108, Try.ntmps108
    go_wp2
    refine bodyPost_ret (v := .tuple #[.int .i64 0, .string ⟨#[]⟩, .bool false]) (by simp [results, Try.results108, go_sem]) rfl ?_
    exact pHead_no Hh.out (Below.refl _ _)
end Go.Proofs.Ytmkacjpjcfffmaa
