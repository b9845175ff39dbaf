/- Plain facts of AVL trees; least trees; the examples of layer 14. joinerylaw14.least, joineryref14.Least, joinerylaw14.alive, and the walk of joinerylaw14.AvlLeast. joinerylaw09.Make: the tree in memory of a tree of beads. -/
import Derived.Test.YtjiiokhjajfhjaaGreatM4
import Derived.Test.YtjiiokhjajfhjaaGreatM7
namespace Go.Proofs.YtjiiokhjajfhjaaGreat
open Go Go.RowKit

theorem avlFirst_cons (t : Tr) (r : List Tr) : avlFirst (t :: r) = if avlBadTag t then (0, 140) else if avlBadTree t then (0, 8) else ((avlFirst r).1 + 1, (avlFirst r).2) := rfl
theorem avlFirst_none : ∀ {l : List Tr}, (avlFirst l).2 = 0 → (avlFirst l).1 = l.length ∧ ∀ t ∈ l, avlBadTag t = false ∧ avlBadTree t = false
  | [], _ => by simp [avlFirst]
  | t :: l, h => by
    unfold avlFirst at h ⊢
    split at h
    · simp at h
    · split at h
      · simp at h
      · rename_i h1 h2
        have := avlFirst_none (l := l) h
        refine ⟨by simp [h1, h2, this.1], ?_⟩
        intro x hx
        rcases List.mem_cons.1 hx with rfl | hx
        · exact ⟨by simpa using h1, by simpa using h2⟩
        · exact this.2 x hx
theorem avlFirst_append (a b : List Tr) : avlFirst (a ++ b) = if (avlFirst a).2 = 0 then (a.length + (avlFirst b).1, (avlFirst b).2) else avlFirst a := by
  induction a with
  | nil => simp [avlFirst]
  | cons t a ih =>
    rw [List.cons_append, avlFirst_cons, avlFirst_cons]
    by_cases h1 : avlBadTag t = true
    · simp [h1]
    · by_cases h2 : avlBadTree t = true
      · simp [h1, h2]
      · simp only [h1, h2, ih]
        by_cases h3 : (avlFirst a).2 = 0
        · simp [h3]; omega
        · simp [h3]

/-- a tree that may be is one whose root is right, and both sides may be. -/
theorem avlMay_node (b : Nat) (l : Tr) (k v g : Int) (r : Tr) : avlMay (.node b l k v g r) = (!avlBadTag (.node b l k v g r) && !avlBadTree (.node b l k v g r) && avlMay l && avlMay r) := by
  unfold avlMay
  simp only [Tr.pre]
  rw [avlFirst_cons]
  by_cases h1 : avlBadTag (.node b l k v g r) = true
  · simp [h1]
  · by_cases h2 : avlBadTree (.node b l k v g r) = true
    · simp [h1, h2]
    · simp only [h1, h2, avlFirst_append]
      by_cases h3 : (avlFirst l.pre).2 = 0 <;> simp [h3]
theorem avlMay_nil : avlMay .nil = true := rfl

/-- a tree's number of nodes. -/
def Tr.count (t : Tr) : Nat := t.pre.length
theorem Tr.count_node (b : Nat) (l : Tr) (k v g : Int) (r : Tr) : (Tr.node b l k v g r).count = l.count + 1 + r.count := by simp [Tr.count, Tr.pre]; omega
theorem Tr.size_count : ∀ t : Tr, t.size = wrap64 t.count
  | .nil => by simp [Tr.size, Tr.count, Tr.pre, wrap64]
  | .node b l k v g r => by
    rw [Tr.size, Tr.size_count l, Tr.size_count r, Tr.count_node]
    have e : ((l.count + 1 + r.count : Nat) : Int) = (l.count : Int) + 1 + (r.count : Int) := by omega
    rw [e]
    unfold wrap64
    omega

/-- the least tree of a height, wherever its nodes lie. -/
def IsLeast : Nat → Tr → Prop
  | 0, t => t = .nil
  | 1, t => ∃ b, t = .node b .nil 1 1 (avlTag .nil .nil) .nil
  | k + 2, t => ∃ b l r, t = .node b l (k + 2) 1 (avlTag l r) r ∧ IsLeast k l ∧ IsLeast (k + 1) r
def leastN : Nat → Nat
  | 0 => 0
  | 1 => 1
  | k + 2 => leastN k + leastN (k + 1) + 1
theorem u64_small {a : Int} (h0 : 0 ≤ a) (h1 : a < 18446744073709551616) : IntKind.u64.wrap a = a := by
  have : (2 : Int) ^ 64 = 18446744073709551616 := by decide
  simp only [IntKind.wrap, IntKind.bits, IntKind.signed, this]
  simp
  omega
theorem isLeast_all : ∀ (k : Nat) (t : Tr), k < 1000000 → IsLeast k t → t.tag = k ∧ avlMay t = true ∧ t.count = leastN k
  | 0, t, _, h => by obtain rfl : t = .nil := h; exact ⟨rfl, rfl, rfl⟩
  | 1, t, _, h => by
    obtain ⟨b, rfl⟩ := h
    have e : avlTag .nil .nil = 1 := by decide
    rw [e]
    exact ⟨rfl, by rw [avlMay_node, show avlBadTag (.node b .nil 1 1 1 .nil) = false from rfl, show avlBadTree (.node b .nil 1 1 1 .nil) = false from rfl]; rfl, rfl⟩
  | k + 2, t, hk, h => by
    obtain ⟨b, l, r, rfl, hl, hr⟩ := h
    obtain ⟨l1, l2, l3⟩ := isLeast_all k l (by omega) hl
    obtain ⟨r1, r2, r3⟩ := isLeast_all (k + 1) r (by omega) hr
    have e : avlTag l r = k + 2 := by
      unfold avlTag
      rw [l1, r1, Int.max_eq_right (by omega), u64_small (by omega) (by omega)]
      omega
    refine ⟨e, ?_, by rw [Tr.count_node, l3, r3, leastN]; omega⟩
    rw [avlMay_node, l2, r2, e]
    have hm : max l.tag r.tag = k + 1 := by rw [l1, r1, Int.max_eq_right (by omega)]; rfl
    have hn : min l.tag r.tag = k := by rw [l1, r1, Int.min_eq_left (by omega)]
    have e1 : avlBadTag (.node b l (k + 2) 1 (k + 2) r) = false := by
      simp only [avlBadTag, Tr.tag_node, Tr.left_node, Tr.right_node, hm]
      rw [u64_small (by omega) (by omega)]
      simp; omega
    have e2 : avlBadTree (.node b l (k + 2) 1 (k + 2) r) = false := by
      simp only [avlBadTree, Tr.left_node, Tr.right_node, hm, hn]
      rw [u64_small (by omega) (by omega)]
      simp; omega
    rw [e1, e2]
    rfl
end Go.Proofs.YtjiiokhjajfhjaaGreat
namespace Go.Proofs.YtjiiokhjajfhjaaGreat
open Go Go.RowKit

/-- some tree with a property, made in new memory. -/
def Makes (S : Tr → Prop) (w : World) (e : Ending) (w' : World) : Prop := ∃ t, e = .returned (.pointer t.ptr) ∧ InH w' t ∧ S t ∧ Ext w w'
theorem leastN_lt : ∀ k : Nat, leastN k < 2 ^ k
  | 0 => by decide
  | 1 => by decide
  | k + 2 => by
    have h1 := leastN_lt k
    have h2 := leastN_lt (k + 1)
    rw [leastN]
    have e1 : 2 ^ (k + 1) = 2 * 2 ^ k := by rw [Nat.pow_succ]; omega
    have e2 : 2 ^ (k + 2) = 4 * 2 ^ k := by rw [Nat.pow_succ, e1]; omega
    omega
theorem leastN_wrap (k : Nat) (h : k ≤ 60) : wrap64 (wrap64 ((leastN k : Int) + (leastN (k + 1) : Int)) + 1) = (leastN (k + 1 + 1) : Int) := by
  have h1 := leastN_lt k
  have h2 := leastN_lt (k + 1)
  have h3 : 2 ^ k ≤ 2 ^ 60 := Nat.pow_le_pow_right (by decide) h
  have h4 : 2 ^ (k + 1) ≤ 2 ^ 61 := Nat.pow_le_pow_right (by decide) (by omega)
  rw [show leastN (k + 1 + 1) = leastN k + leastN (k + 1) + 1 from rfl]
  unfold wrap64
  omega
theorem hmod15 {a0 : Int} (w0 : (Lit.int .u8 a0).wf = true) : ∃ k : Nat, k < 15 ∧ wrap64 (a0.tmod 15) = k := by
  have h : 0 ≤ a0 := by
    simp [Lit.wf, IntKind.min, IntKind.max, IntKind.signed, IntKind.bits] at w0
    omega
  refine ⟨(a0.tmod 15).toNat, ?_, ?_⟩
  · rw [Int.tmod_eq_emod_of_nonneg h]; omega
  · rw [Int.tmod_eq_emod_of_nonneg h]; unfold wrap64; omega
end Go.Proofs.YtjiiokhjajfhjaaGreat
namespace Go.Proofs.YtjiiokhjajfhjaaGreat
open Go Go.RowKit

/-- a tree in memory is the tree of some beads. -/
def BT.fits : BT → Tr → Prop
  | .nil, .nil => True
  | .node k v _ _ g l r, .node _ L k' v' g' R => k = k' ∧ v = v' ∧ g = g' ∧ l.fits L ∧ r.fits R
  | _, _ => False
set_option maxHeartbeats 1000000 in
theorem beadsMake_any (t : BT) : ∀ (w : World) (p : Value), Beads w p t.enc → t.enc.length ≤ 400 →
    Calls Tryz.prog 10 #[p] w (Makes t.fits w) := by
  have hfn : ∀ f, Fence.wide.fn f := fun _ => trivial
  induction t with
  | nil =>
    intro w p hb hl
    obtain ⟨a, c, rfl⟩ := beads_slice hb
    rw [show BT.nil.enc.length = 0 from rfl]
    clear hb hl
    go_enter Tryz.func10, Tryz.ntmps10
    go_wp2
    go_ret
    exact ⟨.nil, rfl, trivial, trivial, Ext.refl _⟩
  | node k v s n g l r ihl ihr =>
    intro w p hb hl
    have hp := parts_any w p k v s n g l r hb (by omega)
    have hlen : (BT.node k v s n g l r).enc.length = 1 + l.enc.length + r.enc.length := by simp [BT.enc]; omega
    have IHl := Lib.hid ihl
    have IHr := Lib.hid ihr
    have hll : l.enc.length ≤ 400 := by omega
    have hlr : r.enc.length ≤ 400 := by omega
    have HLL := Lib.hid hll
    have HLR := Lib.hid hlr
    have h1 : 1 ≤ (BT.node k v s n g l r).enc.length := by omega
    obtain ⟨a, c, rfl⟩ := beads_slice hb
    have HP := Lib.hid hp
    clear hb hp hlen ihl ihr hll hlr
    generalize (BT.node k v s n g l r).enc.length = LL at *
    go_enter Tryz.func10, Tryz.ntmps10
    obtain ⟨m⟩ : Nonempty Nat := ⟨0⟩
    refine (wpIn_wide (n := m)).1 ?_
    gi_wp2_with fail
    refine ⟨wide_room _, (callsIn_wide.2 (HP.out)).mono ?_⟩
    rintro e w1 ⟨v1, v2, rfl, hv1, hv2, hE⟩
    gi_wp2_with fail
    have hnew := alloc_at w1 (.cells #[.int .i64 k, .int .i64 v, .int .i64 s, .int .i64 n, .int .u64 g, .bool (!l.isNil), .bool (!r.isNil)] 71) _ rfl
    have hE2 := (Ext.refl w1).alloc (.cells #[.int .i64 k, .int .i64 v, .int .i64 s, .int .i64 n, .int .u64 g, .bool (!l.isNil), .bool (!r.isNil)] 71)
    generalize (w1.alloc (.cells #[.int .i64 k, .int .i64 v, .int .i64 s, .int .i64 n, .int .u64 g, .bool (!l.isNil), .bool (!r.isNil)] 71)) = w2 at *
    have hE02 := hE.trans hE2
    have HV1 := Lib.hid (hv1.ext hE2)
    have HV2 := Lib.hid (hv2.ext hE2)
    clear hv1 hv2 hE hE2
    have hc0 := cell_all (cell_of hnew 0)
    have hc1 := cell_all (cell_of hnew 1)
    have hc4 := cell_all (cell_of hnew 4)
    have hx := Ext.drew w2
    clear hnew
    refine wpIn_region_G (fun j => !(List.contains (α := Nat) [10] j)) (by kernel_rfl) ?_
    refine batchG hfn (fuel := 4) [0, 2, 3, 4, 5, 6, 7, 8] (by kernel_rfl) rfl ?_
    repeat (go_big_quiet_step ((fail)))
    refine wpQuiet_nil ?_
    refine wpAnyG_one (j := 1) (by kernel_rfl) rfl ?_
    gi_wp2_with fail
    refine ⟨wide_room _, (callsIn_wide.2 (IHl.out _ _ (HV1.out.ext hx) HLL.out)).mono ?_⟩
    rintro e w3 ⟨L, rfl, hL, hLs, h3⟩
    gi_wp2_with fail
    refine onePost_ext (h3) ?_
    refine wpAnyG_one (j := 9) (by kernel_rfl) rfl ?_
    gi_wp2_with fail
    have h23 := hx.trans h3
    refine ⟨wide_room _, (callsIn_wide.2 (IHr.out _ _ (HV2.out.ext h23) HLR.out)).mono ?_⟩
    rintro e w4 ⟨R, rfl, hR, hRs, h4⟩
    gi_wp2_with fail
    refine onePost_ext (h4) ?_
    refine wpAnyG_one (j := 10) (by kernel_rfl) rfl ?_
    gi_wp2_with fail
    refine ⟨wide_room _, (callsIn_wide.2 (new_any w4 L R k v g (hL.ext h4) hR)).mono ?_⟩
    rintro e w5 ⟨B, rfl, hB, hT, h5⟩
    gi_wp2_with fail
    refine onePost_any (by kernel_rfl) ?_
    refine batchG hfn (fuel := 0) [11] (by kernel_rfl) rfl ?_
    repeat (go_big_quiet_step ((fail)))
    refine wpQuiet_nil ?_
    refine wpAnyG_done (by kernel_rfl) ?_
    refine calmQ_normal ?_
    gi_wp2
    go_ret
    exact ⟨_, rfl, hT, ⟨rfl, rfl, rfl, hLs, hRs⟩, ((hE02.trans h23).trans h4).trans h5⟩
def BT.tag : BT → Int
  | .nil => 0
  | .node _ _ _ _ g _ _ => g
theorem BT.fits_tag : ∀ {t : BT} {T : Tr}, t.fits T → t.tag = T.tag
  | .nil, .nil, _ => rfl
  | .nil, .node .., h => h.elim
  | .node .., .nil, h => h.elim
  | .node .., .node .., h => h.2.2.1
theorem BT.fits_left {k v s n g : Int} {l r : BT} : ∀ {T : Tr}, (BT.node k v s n g l r).fits T → l.fits T.left ∧ r.fits T.right ∧ g = T.tag ∧ k = T.key ∧ v = T.val ∧ T.pre = T :: (T.left.pre ++ T.right.pre)
  | .nil, h => h.elim
  | .node .., h => ⟨h.2.2.2.1, h.2.2.2.2, h.2.2.1, h.1, h.2.1, rfl⟩
theorem BT.fits_len : ∀ {t : BT} {T : Tr}, t.fits T → T.pre.length = t.enc.length
  | .nil, .nil, _ => rfl
  | .nil, .node .., h => h.elim
  | .node .., .nil, h => h.elim
  | .node k v s n g l r, .node b L k' v' g' R, h => by
    have h1 := BT.fits_len h.2.2.2.1
    have h2 := BT.fits_len h.2.2.2.2
    simp [Tr.pre, BT.enc, h1, h2]

end Go.Proofs.YtjiiokhjajfhjaaGreat
