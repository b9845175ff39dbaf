/- joinerylaw09.Make: the tree in memory of a tree of beads. joineryref09.Same at equal rows; joinerylaw09.see, See, Is. -/
import Derived.Test.YtoiohjifjmejkaaGreatM4
import Derived.Test.YtoiohjifjmejkaaGreatM5
import Derived.Test.YtoiohjifjmejkaaGreatM7
namespace Go.Proofs.YtoiohjifjmejkaaGreat
open Go Go.RowKit

/-- a tree in memory is the tree of some beads. -/
def BT.fits : BT → Tr → Prop
  | .nil, .nil => True
  | .node k v _ _ g l r, .node _ L k' v' g' R => k = k' ∧ v = v' ∧ g = g' ∧ l.fits L ∧ r.fits R
  | _, _ => False
set_option maxHeartbeats 1000000 in
theorem beadsMake_any (t : BT) : ∀ (w : World) (p : Value), Beads w p t.enc → t.enc.length ≤ 400 →
    Calls Tryz.prog 10 #[p] w (Makes t.fits w) := by
  have hfn : ∀ f, Fence.wide.fn f := fun _ => trivial
  induction t with
  | nil =>
    intro w p hb hl
    obtain ⟨a, c, rfl⟩ := beads_slice hb
    rw [show BT.nil.enc.length = 0 from rfl]
    clear hb hl
    go_enter Tryz.func10, Tryz.ntmps10
    go_wp2
    go_ret
    exact ⟨.nil, rfl, trivial, trivial, Ext.refl _⟩
  | node k v s n g l r ihl ihr =>
    intro w p hb hl
    have hp := parts_any w p k v s n g l r hb (by omega)
    have hlen : (BT.node k v s n g l r).enc.length = 1 + l.enc.length + r.enc.length := by simp [BT.enc]; omega
    have IHl := Lib.hid ihl
    have IHr := Lib.hid ihr
    have hll : l.enc.length ≤ 400 := by omega
    have hlr : r.enc.length ≤ 400 := by omega
    have HLL := Lib.hid hll
    have HLR := Lib.hid hlr
    have h1 : 1 ≤ (BT.node k v s n g l r).enc.length := by omega
    obtain ⟨a, c, rfl⟩ := beads_slice hb
    have HP := Lib.hid hp
    clear hb hp hlen ihl ihr hll hlr
    generalize (BT.node k v s n g l r).enc.length = LL at *
    go_enter Tryz.func10, Tryz.ntmps10
    obtain ⟨m⟩ : Nonempty Nat := ⟨0⟩
    refine (wpIn_wide (n := m)).1 ?_
    gi_wp2_with fail
    refine ⟨wide_room _, (callsIn_wide.2 (HP.out)).mono ?_⟩
    rintro e w1 ⟨v1, v2, rfl, hv1, hv2, hE⟩
    gi_wp2_with fail
    have hnew := alloc_at w1 (.cells #[.int .i64 k, .int .i64 v, .int .i64 s, .int .i64 n, .int .u64 g, .bool (!l.isNil), .bool (!r.isNil)] 68) _ rfl
    have hE2 := (Ext.refl w1).alloc (.cells #[.int .i64 k, .int .i64 v, .int .i64 s, .int .i64 n, .int .u64 g, .bool (!l.isNil), .bool (!r.isNil)] 68)
    generalize (w1.alloc (.cells #[.int .i64 k, .int .i64 v, .int .i64 s, .int .i64 n, .int .u64 g, .bool (!l.isNil), .bool (!r.isNil)] 68)) = w2 at *
    have hE02 := hE.trans hE2
    have HV1 := Lib.hid (hv1.ext hE2)
    have HV2 := Lib.hid (hv2.ext hE2)
    clear hv1 hv2 hE hE2
    have hc0 := cell_all (cell_of hnew 0)
    have hc1 := cell_all (cell_of hnew 1)
    have hc4 := cell_all (cell_of hnew 4)
    have hx := Ext.drew w2
    clear hnew
    refine wpIn_region_G (fun j => !(List.contains (α := Nat) [10] j)) (by kernel_rfl) ?_
    refine batchG hfn (fuel := 4) [0, 2, 3, 4, 5, 6, 7, 8] (by kernel_rfl) rfl ?_
    repeat (go_big_quiet_step ((fail)))
    refine wpQuiet_nil ?_
    refine wpAnyG_one (j := 1) (by kernel_rfl) rfl ?_
    gi_wp2_with fail
    refine ⟨wide_room _, (callsIn_wide.2 (IHl.out _ _ (HV1.out.ext hx) HLL.out)).mono ?_⟩
    rintro e w3 ⟨L, rfl, hL, hLs, h3⟩
    gi_wp2_with fail
    refine onePost_ext (h3) ?_
    refine wpAnyG_one (j := 9) (by kernel_rfl) rfl ?_
    gi_wp2_with fail
    have h23 := hx.trans h3
    refine ⟨wide_room _, (callsIn_wide.2 (IHr.out _ _ (HV2.out.ext h23) HLR.out)).mono ?_⟩
    rintro e w4 ⟨R, rfl, hR, hRs, h4⟩
    gi_wp2_with fail
    refine onePost_ext (h4) ?_
    refine wpAnyG_one (j := 10) (by kernel_rfl) rfl ?_
    gi_wp2_with fail
    refine ⟨wide_room _, (callsIn_wide.2 (new_any w4 L R k v g (hL.ext h4) hR)).mono ?_⟩
    rintro e w5 ⟨B, rfl, hB, hT, h5⟩
    gi_wp2_with fail
    refine onePost_any (by kernel_rfl) ?_
    refine batchG hfn (fuel := 0) [11] (by kernel_rfl) rfl ?_
    repeat (go_big_quiet_step ((fail)))
    refine wpQuiet_nil ?_
    refine wpAnyG_done (by kernel_rfl) ?_
    refine calmQ_normal ?_
    gi_wp2
    go_ret
    exact ⟨_, rfl, hT, ⟨rfl, rfl, rfl, hLs, hRs⟩, ((hE02.trans h23).trans h4).trans h5⟩
def BT.tag : BT → Int
  | .nil => 0
  | .node _ _ _ _ g _ _ => g
theorem BT.fits_tag : ∀ {t : BT} {T : Tr}, t.fits T → t.tag = T.tag
  | .nil, .nil, _ => rfl
  | .nil, .node .., h => h.elim
  | .node .., .nil, h => h.elim
  | .node .., .node .., h => h.2.2.1
theorem BT.fits_left {k v s n g : Int} {l r : BT} : ∀ {T : Tr}, (BT.node k v s n g l r).fits T → l.fits T.left ∧ r.fits T.right ∧ g = T.tag ∧ k = T.key ∧ v = T.val ∧ T.pre = T :: (T.left.pre ++ T.right.pre)
  | .nil, h => h.elim
  | .node .., h => ⟨h.2.2.2.1, h.2.2.2.2, h.2.2.1, h.1, h.2.1, rfl⟩
theorem BT.fits_len : ∀ {t : BT} {T : Tr}, t.fits T → T.pre.length = t.enc.length
  | .nil, .nil, _ => rfl
  | .nil, .node .., h => h.elim
  | .node .., .nil, h => h.elim
  | .node k v s n g l r, .node b L k' v' g' R, h => by
    have h1 := BT.fits_len h.2.2.2.1
    have h2 := BT.fits_len h.2.2.2.2
    simp [Tr.pre, BT.enc, h1, h2]

end Go.Proofs.YtoiohjifjmejkaaGreat
namespace Go.Proofs.YtoiohjifjmejkaaGreat
open Go Go.RowKit

set_option maxHeartbeats 1000000 in
theorem same_any (w : World) (p q : Value) (zs : List BeadL) (hp : Beads w p zs) (hq : Beads w q zs) (hl : zs.length ≤ 2000) : Calls Tryz.prog 46 #[p, q] w (Ret (.bool true) w) := by
  rcases hp with ⟨h0, a, c, rfl⟩ | ⟨b, o, c, rfl, hne, hc, hr⟩
  · subst h0
    obtain ⟨a2, c2, rfl⟩ := beads_slice hq
    rw [show ([] : List BeadL).length = 0 from rfl]
    clear hq hl
    go_enter Tryz.func46, Tryz.ntmps46
    go_wp2
    go_loop [5] (fun i => i = .int .i64 0) (fun _ => 0)
    case atStart => rfl
    case round =>
      subst hrel
      go_wp2
      go_ret
      exact Ret.mk (Ext.refl _)
  · rcases hq with ⟨h0, _⟩ | ⟨b2, o2, c2, rfl, _, hc2, hr2⟩
    · exact (hne h0).elim
    · have H := Lib.hid hr
      have H2 := Lib.hid hr2
      clear hr hr2 hne
      go_enter Tryz.func46, Tryz.ntmps46
      go_wp2
      go_loopw [5] (fun i W => Ext w W ∧ ∃ k : Nat, k ≤ zs.length ∧ i = .int .i64 k) (fun i _ => zs.length - (intOf i).toNat)
      case atStart => exact ⟨Ext.refl _, 0, Nat.zero_le _, rfl⟩
      case round =>
        obtain ⟨hX, k, hk, rfl⟩ := hrel
        by_cases hlt : k < zs.length
        · obtain ⟨z, hz⟩ : ∃ z, zs[k]? = some z := ⟨_, List.getElem?_eq_getElem hlt⟩
          obtain ⟨z0, z1, z2, z3, z4, z5, z6⟩ := z
          have c0 : wr.cell? ⟨b, o + k * 7, none⟩ = some (.int .i64 z0) := rangeAt_cell (rangeAt_ext H.out hX) hz (j := 0) rfl
          have c1 : wr.cell? ⟨b, o + k * 7 + 1, none⟩ = some (.int .i64 z1) := rangeAt_cell (rangeAt_ext H.out hX) hz (j := 1) rfl
          have c2 : wr.cell? ⟨b, o + k * 7 + 2, none⟩ = some (.int .i64 z2) := rangeAt_cell (rangeAt_ext H.out hX) hz (j := 2) rfl
          have c3 : wr.cell? ⟨b, o + k * 7 + 3, none⟩ = some (.int .i64 z3) := rangeAt_cell (rangeAt_ext H.out hX) hz (j := 3) rfl
          have c4 : wr.cell? ⟨b, o + k * 7 + 4, none⟩ = some (.int .u64 z4) := rangeAt_cell (rangeAt_ext H.out hX) hz (j := 4) rfl
          have c5 : wr.cell? ⟨b, o + k * 7 + 5, none⟩ = some (.bool z5) := rangeAt_cell (rangeAt_ext H.out hX) hz (j := 5) rfl
          have c6 : wr.cell? ⟨b, o + k * 7 + 6, none⟩ = some (.bool z6) := rangeAt_cell (rangeAt_ext H.out hX) hz (j := 6) rfl
          have d0 : wr.cell? ⟨b2, o2 + k * 7, none⟩ = some (.int .i64 z0) := rangeAt_cell (rangeAt_ext H2.out hX) hz (j := 0) rfl
          have d1 : wr.cell? ⟨b2, o2 + k * 7 + 1, none⟩ = some (.int .i64 z1) := rangeAt_cell (rangeAt_ext H2.out hX) hz (j := 1) rfl
          have d2 : wr.cell? ⟨b2, o2 + k * 7 + 2, none⟩ = some (.int .i64 z2) := rangeAt_cell (rangeAt_ext H2.out hX) hz (j := 2) rfl
          have d3 : wr.cell? ⟨b2, o2 + k * 7 + 3, none⟩ = some (.int .i64 z3) := rangeAt_cell (rangeAt_ext H2.out hX) hz (j := 3) rfl
          have d4 : wr.cell? ⟨b2, o2 + k * 7 + 4, none⟩ = some (.int .u64 z4) := rangeAt_cell (rangeAt_ext H2.out hX) hz (j := 4) rfl
          have d5 : wr.cell? ⟨b2, o2 + k * 7 + 5, none⟩ = some (.bool z5) := rangeAt_cell (rangeAt_ext H2.out hX) hz (j := 5) rfl
          have d6 : wr.cell? ⟨b2, o2 + k * 7 + 6, none⟩ = some (.bool z6) := rangeAt_cell (rangeAt_ext H2.out hX) hz (j := 6) rfl
          clear hz
          go_wp2_with fail
          go_region
          go_wp2
          go_roundw
          case rel => exact ⟨by first | exact hX | exact hX.trans (Ext.drew _), k + 1, by omega, by go_num⟩
          case measure => simp [intOf]; omega
        · go_wp2
          go_ret
          exact Ret.mk hX
/-- a node's bead, as its tree tells it. -/
def Tr.bead (t : Tr) : BeadL := ⟨t.key, t.val, t.sum, t.size, t.tag, t.left.ptr.isSome, t.right.ptr.isSome⟩
def Tr.beads (t : Tr) : List BeadL := t.pre.map Tr.bead
def Tr.high : Tr → Nat
  | .nil => 0
  | .node _ l _ _ _ r => 1 + max l.high r.high
theorem Tr.high_le : ∀ t : Tr, t.high ≤ t.pre.length
  | .nil => by simp [Tr.high]
  | .node b l k v g r => by
    have h1 := Tr.high_le l
    have h2 := Tr.high_le r
    simp [Tr.high, Tr.pre]
    omega
/-- what see hands back. -/
def Sees (zs : List BeadL) (w0 : World) (e : Ending) (w' : World) : Prop := ∃ v, e = .returned (.tuple #[v, .bool true]) ∧ Own w0.heap.size w' v zs ∧ Ext w0 w'
set_option maxHeartbeats 1000000 in
theorem see_any (w0 : World) (T : Tr) : InH w0 T → ∀ (w : World) (v : Value) (zs : List BeadL) (deep : Nat), Ext w0 w → Own w0.heap.size w v zs → zs.length + T.pre.length ≤ 5000 → deep + T.high ≤ 2000 →
    Calls Tryz.prog 68 #[.pointer T.ptr, v, .int .i64 deep] w (Sees (zs ++ T.beads) w0) := by
  induction T with
  | nil =>
    intro _ w v zs deep hE hv _ _
    have H := Lib.hid (And.intro hE hv)
    clear hE hv
    rw [Tr.ptr_nil, show Tr.nil.beads = [] from rfl, List.append_nil]
    go_enter Tryz.func68, Tryz.ntmps68
    go_wp2
    go_ret2
    exact ⟨_, rfl, H.out.2, H.out.1⟩
  | node b l k vv g r ihl ihr =>
    intro hT w v zs deep hE hv hlen hdeep
    obtain ⟨a, c, hvs⟩ := beads_slice hv.beads
    subst hvs
    have hT' := Lib.hid hT
    have hl1 : l.high + 1 ≤ (Tr.node b l k vv g r).high := by simp [Tr.high]; omega
    have hr1 : r.high + 1 ≤ (Tr.node b l k vv g r).high := by simp [Tr.high]; omega
    have hpl : (Tr.node b l k vv g r).pre.length = 1 + l.pre.length + r.pre.length := by simp [Tr.pre]; omega
    have IHl := Lib.hid (ihl hT.2.1)
    have IHr := Lib.hid (ihr hT.2.2)
    have HV := Lib.hid hv
    have hd1 : deep + 1 + l.high ≤ 2000 := by omega
    have hd2 : deep + 1 + r.high ≤ 2000 := by omega
    have hz : zs.length ≤ 5000 := by omega
    have hz2 : deep ≤ 2000 := by omega
    have HLEN := Lib.hid (show zs.length + (1 + l.pre.length + r.pre.length) ≤ 5000 by omega)
    have HD1 := Lib.hid hd1
    have HD2 := Lib.hid hd2
    have HBS := Lib.hid (show (Tr.node b l k vv g r).beads = (Tr.node b l k vv g r).bead :: (l.beads ++ r.beads) by simp [Tr.beads, Tr.pre])
    have hkey := fun w h => key_any w (Tr.node b l k vv g r) (hT'.out.ext h)
    have hval := fun w h => val_any w (Tr.node b l k vv g r) (hT'.out.ext h)
    have htag := fun w h => tag_any w (Tr.node b l k vv g r) (hT'.out.ext h)
    have hsiz := fun w h => size_any w (Tr.node b l k vv g r) (hT'.out.ext h)
    have hsum := fun w h => sum_any w (Tr.node b l k vv g r) (hT'.out.ext h)
    have hlef := fun w h => left_any w (Tr.node b l k vv g r) (hT'.out.ext h)
    have hrig := fun w h => right_any w (Tr.node b l k vv g r) (hT'.out.ext h)
    have hbead : (Tr.node b l k vv g r).bead = ⟨k, vv, (Tr.node b l k vv g r).sum, (Tr.node b l k vv g r).size, g, l.ptr.isSome, r.ptr.isSome⟩ := rfl
    simp only [Tr.ptr_node, Tr.key_node, Tr.val_node, Tr.tag_node, Tr.left_node, Tr.right_node] at hkey hval htag hsiz hsum hlef hrig
    rw [Tr.ptr_node]
    generalize (Tr.node b l k vv g r).beads = BS at *
    generalize (Tr.node b l k vv g r).sum = SM at *
    generalize (Tr.node b l k vv g r).size = SZ at *
    have HK := Lib.hid hkey
    have HVA := Lib.hid hval
    have HT := Lib.hid htag
    have HSZ := Lib.hid hsiz
    have HSM := Lib.hid hsum
    have HLF := Lib.hid hlef
    have HRG := Lib.hid hrig
    have HBD := Lib.hid hbead
    clear hT hl1 hr1 hpl ihl ihr hd1 hd2 hlen hdeep hkey hval htag hsiz hsum hlef hrig hbead hv
    generalize hZL : zs.length = ZL at *
    have HZL := Lib.hid hZL
    clear hZL
    go_enter Tryz.func68, Tryz.ntmps68
    go_wp2_with fail
    refine (HK.out w hE).mono ?_
    rintro e w1 ⟨rfl, h1⟩
    go_wp2_with fail
    refine (HVA.out w1 (hE.trans h1)).mono ?_
    rintro e w2 ⟨rfl, h2⟩
    have h02 := h1.trans h2
    go_wp2_with fail
    refine (HT.out w2 (hE.trans h02)).mono ?_
    rintro e w3 ⟨rfl, h3⟩
    have h03 := h02.trans h3
    clear h1 h2 h02 h3
    go_wp2_with fail
    refine (HSZ.out w3 (hE.trans h03)).mono ?_
    rintro e w4 ⟨rfl, h4⟩
    have h04 := h03.trans h4
    clear h03 h4
    go_wp2_with fail
    refine (HSM.out w4 (hE.trans h04)).mono ?_
    rintro e w5 ⟨rfl, h5⟩
    have h05 := h04.trans h5
    clear h04 h5
    go_wp2_with fail
    refine (HLF.out w5 (hE.trans h05)).mono ?_
    rintro e w6 ⟨rfl, h6⟩
    have h06 := h05.trans h6
    clear h05 h6
    go_wp2_with fail
    refine (HRG.out w6 (hE.trans h06)).mono ?_
    rintro e w7 ⟨rfl, h7⟩
    have h07 := h06.trans h7
    clear h06 h7
    have hA := (Ext.refl w7).alloc (.cells #[.int .i64 k, .int .i64 vv, .int .i64 SM, .int .i64 SZ, .int .u64 g, .bool l.ptr.isSome, .bool r.ptr.isSome] 68)
    have hW7 : Ext w0 w7 := hE.trans h07
    have HZ := Lib.hid (own_new (B := w0.heap.size) (w := w7) ⟨k, vv, SM, SZ, g, l.ptr.isSome, r.ptr.isSome⟩ hW7.size).beads
    have HO := Lib.hid ((HV.out.ext h07).ext hA)
    have HE8 := Lib.hid (hW7.trans hA)
    clear hA hW7 h07 hE
    go_wp2_with (at_builtin; refine wpList_append_beads (B := w0.heap.size) (ys := [⟨k, vv, SM, SZ, g, l.ptr.isSome, r.ptr.isSome⟩]) rfl (.tmp 20) (.tmp 38) rfl rfl rfl HO.out HZ.out ?b1 HE8.out.size ?_)
    case b1 => have := HZL.out; (try simp); omega
    intro v8 w8 hown8 hg8
    have hE8 : Ext w0 w8 := grown_ext HE8.out HO.out hg8
    have HO8 := Lib.hid hown8
    clear hg8 hown8
    go_wp2_with fail
    refine (HLF.out w8 hE8).mono ?_
    rintro e w9 ⟨rfl, h9⟩
    go_wp2_with fail
    rw [show (deep : Int) + 1 = ((deep + 1 : Nat) : Int) by omega]
    refine (IHl.out w9 v8 _ (deep + 1) (hE8.trans h9) (HO8.out.ext h9) (by have h1 := HLEN.out; have h2 := HZL.out; (try simp); omega) HD1.out).mono ?_
    rintro e w10 ⟨v10, rfl, hown10, hE10⟩
    have HO10 := Lib.hid hown10
    clear hown10 h9 hE8
    go_wp2_with fail
    refine (HRG.out w10 hE10).mono ?_
    rintro e w11 ⟨rfl, h11⟩
    go_wp2_with fail
    rw [show (deep : Int) + 1 = ((deep + 1 : Nat) : Int) by omega]
    refine (IHr.out w11 v10 _ (deep + 1) (hE10.trans h11) (HO10.out.ext h11) (by have h1 := HLEN.out; have h2 := HZL.out; have h3 : l.beads.length = l.pre.length := by simp [Tr.beads]
                                                                                 (try simp); omega) HD2.out).mono ?_
    rintro e w12 ⟨v12, rfl, hown12, hE12⟩
    have HO12 := Lib.hid hown12
    clear hown12 h11 hE10
    go_wp2
    go_ret2
    refine ⟨_, rfl, ?_, hE12⟩
    rw [HBS.out, HBD.out]
    have := HO12.out
    simpa using this
theorem see09_any (w : World) (T : Tr) (hT : InH w T) (hl : T.pre.length ≤ 2000) : Calls Tryz.prog 44 #[.pointer T.ptr] w (Sees T.beads w) := by
  have hh := Tr.high_le T
  have H := Lib.hid (see_any w T hT w (.slice none 0 0) [] 0 (Ext.refl w) (Own.nil _ _) (by simp; omega) (by omega))
  clear hh
  go_enter Tryz.func44, Tryz.ntmps44
  go_wp2_with fail
  refine H.out.mono ?_
  rintro e w1 ⟨v1, rfl, hown, hE⟩
  have HO := Lib.hid hown
  clear hown
  go_wp2
  go_ret2
  exact ⟨_, rfl, HO.out, hE⟩
theorem is_any (w : World) (T : Tr) (q : Value) (hT : InH w T) (hq : Beads w q T.beads) (hl : T.pre.length ≤ 2000) : Calls Tryz.prog 18 #[.pointer T.ptr, q] w (Ret (.bool true) w) := by
  have H := Lib.hid (see09_any w T hT hl)
  have HQ := Lib.hid hq
  have HL := Lib.hid (show T.beads.length ≤ 2000 by simpa [Tr.beads] using hl)
  clear hq hl
  go_enter Tryz.func18, Tryz.ntmps18
  go_wp2_with fail
  refine H.out.mono ?_
  rintro e w1 ⟨v1, rfl, hown, hE⟩
  have HO := Lib.hid hown.beads
  clear hown
  go_wp2_with fail
  refine (same_any w1 v1 q T.beads HO.out (HQ.out.ext hE) HL.out).mono ?_
  rintro e w2 ⟨rfl, h2⟩
  go_wp2
  go_ret
  exact Ret.mk (hE.trans h2)

/-- the values together. -/
def tot (zs : List BeadL) : Int := (zs.map BeadL.val).sum
theorem sumL_from (zs : List BeadL) : ∀ a : Int, zs.foldl (fun n z => wrap64 (n + z.val)) (wrap64 a) = wrap64 (a + tot zs) := by
  induction zs with
  | nil => intro a; simp [tot]
  | cons z zs ih =>
    intro a
    rw [List.foldl_cons, show wrap64 (wrap64 a + z.val) = wrap64 (a + z.val) by unfold wrap64; omega, ih]
    simp [tot, Int.add_assoc]
theorem sumL_tot (zs : List BeadL) : sumL zs = wrap64 (tot zs) := by
  have := sumL_from zs 0
  rw [show wrap64 0 = 0 by decide +kernel] at this
  unfold sumL
  rw [this, Int.zero_add]
theorem tot_append (a b : List BeadL) : tot (a ++ b) = tot a + tot b := by simp [tot]
theorem wrap_add (x y : Int) : wrap64 (wrap64 x + y) = wrap64 (x + y) := by unfold wrap64; omega
theorem wrap_three (a v b : Int) : wrap64 (wrap64 (wrap64 a + v) + wrap64 b) = wrap64 (a + v + b) := by
  rw [wrap_add a v, wrap_add (a + v), Int.add_comm (a + v), wrap_add b, Int.add_comm b]
theorem fits_sum : ∀ {t : BT} {T : Tr}, t.fits T → T.sum = wrap64 (tot t.enc) ∧ T.size = wrap64 t.enc.length
  | .nil, .nil, _ => ⟨by simp [Tr.sum, BT.enc, tot, wrap64], by simp [Tr.size, BT.enc, wrap64]⟩
  | .nil, .node .., h => h.elim
  | .node .., .nil, h => h.elim
  | .node k v s n g l r, .node b L k' v' g' R, h => by
    have h1 := fits_sum h.2.2.2.1
    have h2 := fits_sum h.2.2.2.2
    rw [Tr.sum, Tr.size, h1.1, h1.2, h2.1, h2.2]
    have e1 : tot (BT.node k v s n g l r).enc = v + (tot l.enc + tot r.enc) := by
      rw [← tot_append]; simp [BT.enc, tot]
    have e2 : ((BT.node k v s n g l r).enc.length : Int) = 1 + l.enc.length + r.enc.length := by simp [BT.enc]; omega
    rw [e1, e2, ← h.2.1, wrap_three, wrap_three]
    exact ⟨by congr 1; omega, by congr 1; omega⟩
theorem fits_some : ∀ {t : BT} {T : Tr}, t.fits T → T.ptr.isSome = !t.isNil
  | .nil, .nil, _ => rfl
  | .nil, .node .., h => h.elim
  | .node .., .nil, h => h.elim
  | .node .., .node .., _ => rfl
/-- a tree tells the beads that it was made of, with sizes and sums. -/
theorem fits_beads : ∀ {t : BT} {T : Tr}, t.fits T → t.enc.length ≤ 10000 → T.beads = t.of.enc
  | .nil, .nil, _, _ => rfl
  | .nil, .node .., h, _ => h.elim
  | .node .., .nil, h, _ => h.elim
  | .node k v s n g l r, .node b L k' v' g' R, h, hl => by
    have hl' : (BT.node k v s n g l r).enc.length = 1 + l.enc.length + r.enc.length := by simp [BT.enc]; omega
    have h1 := fits_beads h.2.2.2.1 (by omega)
    have h2 := fits_beads h.2.2.2.2 (by omega)
    have h3 := fits_sum h
    have e1 : (Tr.node b L k' v' g' R).beads = (Tr.node b L k' v' g' R).bead :: (L.beads ++ R.beads) := by simp [Tr.beads, Tr.pre]
    rw [e1, h1, h2]
    show _ = BeadL.mk _ _ _ _ _ (!l.of.isNil) (!r.of.isNil) :: (l.of.enc ++ r.of.enc)
    rw [BT.of_isNil, BT.of_isNil, ← fits_some h.2.2.2.1, ← fits_some h.2.2.2.2, sumL_tot, ← h3.1]
    have e3 : (Tr.node b L k' v' g' R).size = (BT.node k v s n g l r).enc.length := by
      rw [h3.2]; unfold wrap64; omega
    rw [← e3, h.1, h.2.1, h.2.2.1]
    rfl
end Go.Proofs.YtoiohjifjmejkaaGreat
