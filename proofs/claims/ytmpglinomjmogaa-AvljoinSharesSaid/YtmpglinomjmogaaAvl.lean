/- The package avl, but for Check and May. -/
import Derived.Test.YtmpglinomjmogaaDraw
namespace Go.Proofs.Ytmpglinomjmogaa
open Go Go.RowKit

/-- the tag of a node that is made of two. -/
def avlTag (l r : Tr) : Int := IntKind.u64.wrap (max l.tag r.tag + 1)
theorem avlTag_left {l r : Tr} (h : r.tag ≤ l.tag) : IntKind.u64.wrap (l.tag + 1) = avlTag l r := by unfold avlTag; rw [Int.max_eq_left h]
theorem avlTag_right {l r : Tr} (h : ¬ r.tag ≤ l.tag) : IntKind.u64.wrap (r.tag + 1) = avlTag l r := by unfold avlTag; rw [Int.max_eq_right (by omega)]
set_option maxHeartbeats 400000 in
theorem avlMake_any (w : World) (l r : Tr) (k v : Int) (hl : InH w l) (hr : InH w r) : Calls Try.prog 29 #[.pointer l.ptr, .int .i64 k, .int .i64 v, .pointer r.ptr] w (New l k v (avlTag l r) r w) := by
  go_enter Try.func29, Try.ntmps29
  go_wp2_with fail
  refine (tag_any _ l hl).mono ?_
  rintro e w1 ⟨rfl, h1⟩
  go_wp2_with fail
  refine (tag_any _ r (hr.ext h1)).mono ?_
  rintro e w2 ⟨rfl, h2⟩
  have h := h1.trans h2
  by_cases hc : r.tag ≤ l.tag
  · have e := avlTag_left hc
    have hE := Lib.hid e
    clear e
    go_wp2_with fail
    rw [hE.out]
    refine (new_any _ l r k v _ (hl.ext h) (hr.ext h)).mono ?_
    rintro e w3 ⟨b, rfl, hb, ht, h3⟩
    go_wp2
    go_ret
    exact ⟨b, rfl, Nat.le_trans h.size hb, ht, h.trans h3⟩
  · have e := avlTag_right hc
    have hE := Lib.hid e
    clear e
    go_wp2_with fail
    rw [hE.out]
    refine (new_any _ l r k v _ (hl.ext h) (hr.ext h)).mono ?_
    rintro e w3 ⟨b, rfl, hb, ht, h3⟩
    go_wp2
    go_ret
    exact ⟨b, rfl, Nat.le_trans h.size hb, ht, h.trans h3⟩
set_option maxHeartbeats 400000 in
theorem avlRank_any (w : World) (t : Tr) (ht : InH w t) : Calls Try.prog 21 #[.pointer t.ptr] w (Ret (.int .i64 (wrap64 t.tag)) w) := by
  go_enter Try.func21, Try.ntmps21
  go_wp2_with fail
  refine (tag_any _ t ht).mono ?_
  rintro e w1 ⟨rfl, h1⟩
  go_wp2
  go_ret
  exact Ret.mk h1
/-- by how much a tree is higher on the right. -/
def avlLean (t : Tr) : Int := wrap64 (IntKind.u64.wrap (t.right.tag - t.left.tag))
end Go.Proofs.Ytmpglinomjmogaa
