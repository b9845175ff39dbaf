/- joinerylaw09.Make: the tree in memory of a tree of beads. -/
import Derived.Test.YtkbndpemljommaaBead2
import Derived.Test.YtkbndpemljommaaAvlLeast
namespace Go.Proofs.Ytkbndpemljommaa
open Go Go.RowKit

/-- a tree in memory is the tree of some beads. -/
def BT.fits : BT → Tr → Prop
  | .nil, .nil => True
  | .node k v _ _ g l r, .node _ L k' v' g' R => k = k' ∧ v = v' ∧ g = g' ∧ l.fits L ∧ r.fits R
  | _, _ => False
set_option maxHeartbeats 1000000 in
theorem beadsMake_any (t : BT) : ∀ (w : World) (p : Value), Beads w p t.enc → t.enc.length ≤ 400 →
    Calls Try.prog 6 #[p] w (Makes t.fits w) := by
  have hfn : ∀ f, Fence.wide.fn f := fun _ => trivial
  induction t with
  | nil =>
    intro w p hb hl
    obtain ⟨a, c, rfl⟩ := beads_slice hb
    rw [show BT.nil.enc.length = 0 from rfl]
    clear hb hl
    go_enter Try.func6, Try.ntmps6
    go_wp2
    go_ret
    exact ⟨.nil, rfl, trivial, trivial, Ext.refl _⟩
  | node k v s n g l r ihl ihr =>
    intro w p hb hl
    have hp := parts_any w p k v s n g l r hb (by omega)
    have hlen : (BT.node k v s n g l r).enc.length = 1 + l.enc.length + r.enc.length := by simp [BT.enc]; omega
    have IHl := Lib.hid ihl
    have IHr := Lib.hid ihr
    have hll : l.enc.length ≤ 400 := by omega
    have hlr : r.enc.length ≤ 400 := by omega
    have HLL := Lib.hid hll
    have HLR := Lib.hid hlr
    have h1 : 1 ≤ (BT.node k v s n g l r).enc.length := by omega
    obtain ⟨a, c, rfl⟩ := beads_slice hb
    have HP := Lib.hid hp
    clear hb hp hlen ihl ihr hll hlr
    generalize (BT.node k v s n g l r).enc.length = LL at *
    go_enter Try.func6, Try.ntmps6
    obtain ⟨m⟩ : Nonempty Nat := ⟨0⟩
    refine (wpIn_wide (n := m)).1 ?_
    gi_wp2_with fail
    refine ⟨wide_room _, (callsIn_wide.2 (HP.out)).mono ?_⟩
    rintro e w1 ⟨v1, v2, rfl, hv1, hv2, hE⟩
    gi_wp2_with fail
    have hnew := alloc_at w1 (.cells #[.int .i64 k, .int .i64 v, .int .i64 s, .int .i64 n, .int .u64 g, .bool (!l.isNil), .bool (!r.isNil)] 44) _ rfl
    have hE2 := (Ext.refl w1).alloc (.cells #[.int .i64 k, .int .i64 v, .int .i64 s, .int .i64 n, .int .u64 g, .bool (!l.isNil), .bool (!r.isNil)] 44)
    generalize (w1.alloc (.cells #[.int .i64 k, .int .i64 v, .int .i64 s, .int .i64 n, .int .u64 g, .bool (!l.isNil), .bool (!r.isNil)] 44)) = w2 at *
    have hE02 := hE.trans hE2
    have HV1 := Lib.hid (hv1.ext hE2)
    have HV2 := Lib.hid (hv2.ext hE2)
    clear hv1 hv2 hE hE2
    have hc0 := cell_all (cell_of hnew 0)
    have hc1 := cell_all (cell_of hnew 1)
    have hc4 := cell_all (cell_of hnew 4)
    have hx := Ext.drew w2
    clear hnew
    refine wpIn_region_G (fun j => !(List.contains (α := Nat) [10] j)) (by kernel_rfl) ?_
    refine batchG hfn (fuel := 4) [0, 2, 3, 4, 5, 6, 7, 8] (by kernel_rfl) rfl ?_
    repeat (go_big_quiet_step ((fail)))
    refine wpQuiet_nil ?_
    refine wpAnyG_one (j := 1) (by kernel_rfl) rfl ?_
    gi_wp2_with fail
    refine ⟨wide_room _, (callsIn_wide.2 (IHl.out _ _ (HV1.out.ext hx) HLL.out)).mono ?_⟩
    rintro e w3 ⟨L, rfl, hL, hLs, h3⟩
    gi_wp2_with fail
    refine onePost_ext (h3) ?_
    refine wpAnyG_one (j := 9) (by kernel_rfl) rfl ?_
    gi_wp2_with fail
    have h23 := hx.trans h3
    refine ⟨wide_room _, (callsIn_wide.2 (IHr.out _ _ (HV2.out.ext h23) HLR.out)).mono ?_⟩
    rintro e w4 ⟨R, rfl, hR, hRs, h4⟩
    gi_wp2_with fail
    refine onePost_ext (h4) ?_
    refine wpAnyG_one (j := 10) (by kernel_rfl) rfl ?_
    gi_wp2_with fail
    refine ⟨wide_room _, (callsIn_wide.2 (new_any w4 L R k v g (hL.ext h4) hR)).mono ?_⟩
    rintro e w5 ⟨B, rfl, hB, hT, h5⟩
    gi_wp2_with fail
    refine onePost_any (by kernel_rfl) ?_
    refine batchG hfn (fuel := 0) [11] (by kernel_rfl) rfl ?_
    repeat (go_big_quiet_step ((fail)))
    refine wpQuiet_nil ?_
    refine wpAnyG_done (by kernel_rfl) ?_
    refine calmQ_normal ?_
    gi_wp2
    go_ret
    exact ⟨_, rfl, hT, ⟨rfl, rfl, rfl, hLs, hRs⟩, ((hE02.trans h23).trans h4).trans h5⟩
def BT.tag : BT → Int
  | .nil => 0
  | .node _ _ _ _ g _ _ => g
theorem BT.fits_tag : ∀ {t : BT} {T : Tr}, t.fits T → t.tag = T.tag
  | .nil, .nil, _ => rfl
  | .nil, .node .., h => h.elim
  | .node .., .nil, h => h.elim
  | .node .., .node .., h => h.2.2.1
theorem BT.fits_left {k v s n g : Int} {l r : BT} : ∀ {T : Tr}, (BT.node k v s n g l r).fits T → l.fits T.left ∧ r.fits T.right ∧ g = T.tag ∧ k = T.key ∧ v = T.val ∧ T.pre = T :: (T.left.pre ++ T.right.pre)
  | .nil, h => h.elim
  | .node .., h => ⟨h.2.2.2.1, h.2.2.2.2, h.2.2.1, h.1, h.2.1, rfl⟩
theorem BT.fits_len : ∀ {t : BT} {T : Tr}, t.fits T → T.pre.length = t.enc.length
  | .nil, .nil, _ => rfl
  | .nil, .node .., h => h.elim
  | .node .., .nil, h => h.elim
  | .node k v s n g l r, .node b L k' v' g' R, h => by
    have h1 := BT.fits_len h.2.2.2.1
    have h2 := BT.fits_len h.2.2.2.2
    simp [Tr.pre, BT.enc, h1, h2]

end Go.Proofs.Ytkbndpemljommaa
