/- rbjoin: its sides, hang. -/
import Derived.Test.YtoiohjifjmejkaaGreatM3
import Derived.Test.YtoiohjifjmejkaaGreatM18
namespace Go.Proofs.YtoiohjifjmejkaaGreat
open Go Go.RowKit

/-- a side, as the code tells it, and its methods. -/
def sT (s : Bool) : Nat := if s then 172 else 173
def rInF (s : Bool) : Nat := if s then 219 else 222
def rOutF (s : Bool) : Nat := if s then 221 else 224
def rMkF (s : Bool) : Nat := if s then 220 else 223
def sideI (s : Bool) : Value := .iface (sT s) (.agg #[])
theorem part_zero (w : World) (T : TypeId) (hT : Tryz.prog.cellsOf T = 0) : (partAt ⟨w.heap.size, 0, none⟩ 0 0).run Tryz.prog (w.alloc (.cells #[] T)) = .ok ⟨w.heap.size, 0, none⟩ (w.alloc (.cells #[] T)) := by
  have h := alloc_at w (.cells #[] T) _ rfl
  have hs : (w.alloc (.cells #[] T)).shape? w.heap.size = some (T, 0) := by unfold World.shape?; rw [h]; rfl
  simp [partAt, byteOf, noView, viewAt, hs, hT]
theorem rmeth_in (s : Bool) (f : Nat) (w : World) : (method (f + 1) (sT s) (.agg #[]) "joinery/rbjoin.in").run Tryz.prog w = .ok (rInF s, .agg #[]) w := by cases s <;> kernel_rfl
theorem rmeth_out (s : Bool) (f : Nat) (w : World) : (method (f + 1) (sT s) (.agg #[]) "joinery/rbjoin.out").run Tryz.prog w = .ok (rOutF s, .agg #[]) w := by cases s <;> kernel_rfl
theorem rmeth_mk (s : Bool) (f : Nat) (w : World) : (method (f + 1) (sT s) (.agg #[]) "joinery/rbjoin.make").run Tryz.prog w = .ok (rMkF s, .agg #[]) w := by cases s <;> kernel_rfl
theorem rahead_mk (s : Bool) (f : Nat) (w : World) : (nilAhead (f + 1) (sT s) (.agg #[]) "joinery/rbjoin.make").run Tryz.prog w = .ok (some false) w := by cases s <;> kernel_rfl
theorem rcall_in (s : Bool) (a : Array Value) (w : World) : (callFunc (rInF s) a).run Tryz.prog w = .ok (.enter (rInF s) a) w := by cases s <;> kernel_rfl
theorem rcall_out (s : Bool) (a : Array Value) (w : World) : (callFunc (rOutF s) a).run Tryz.prog w = .ok (.enter (rOutF s) a) w := by cases s <;> kernel_rfl
theorem rcall_mk (s : Bool) (a : Array Value) (w : World) : (callFunc (rMkF s) a).run Tryz.prog w = .ok (.enter (rMkF s) a) w := by cases s <;> kernel_rfl
set_option maxHeartbeats 400000 in
theorem rInR_any (w : World) (t : Tr) (ht : InH w t) : Calls Tryz.prog 219 #[.agg #[], .pointer t.ptr] w (Ret (.pointer t.left.ptr) w) := by
  go_enter Tryz.func219, Tryz.ntmps219
  go_wp2_with fail
  refine (left_any _ t (ht.ext ((Ext.refl w).alloc _))).mono ?_
  rintro e w1 ⟨rfl, h1⟩
  go_wp2
  go_ret
  exact Ret.mk (((Ext.refl w).alloc _).trans h1)
set_option maxHeartbeats 400000 in
theorem rOutR_any (w : World) (t : Tr) (ht : InH w t) : Calls Tryz.prog 221 #[.agg #[], .pointer t.ptr] w (Ret (.pointer t.right.ptr) w) := by
  go_enter Tryz.func221, Tryz.ntmps221
  go_wp2_with fail
  refine (right_any _ t (ht.ext ((Ext.refl w).alloc _))).mono ?_
  rintro e w1 ⟨rfl, h1⟩
  go_wp2
  go_ret
  exact Ret.mk (((Ext.refl w).alloc _).trans h1)
set_option maxHeartbeats 400000 in
theorem rInL_any (w : World) (t : Tr) (ht : InH w t) : Calls Tryz.prog 222 #[.agg #[], .pointer t.ptr] w (Ret (.pointer t.right.ptr) w) := by
  go_enter Tryz.func222, Tryz.ntmps222
  go_wp2_with fail
  refine (right_any _ t (ht.ext ((Ext.refl w).alloc _))).mono ?_
  rintro e w1 ⟨rfl, h1⟩
  go_wp2
  go_ret
  exact Ret.mk (((Ext.refl w).alloc _).trans h1)
set_option maxHeartbeats 400000 in
theorem rOutL_any (w : World) (t : Tr) (ht : InH w t) : Calls Tryz.prog 224 #[.agg #[], .pointer t.ptr] w (Ret (.pointer t.left.ptr) w) := by
  go_enter Tryz.func224, Tryz.ntmps224
  go_wp2_with fail
  refine (left_any _ t (ht.ext ((Ext.refl w).alloc _))).mono ?_
  rintro e w1 ⟨rfl, h1⟩
  go_wp2
  go_ret
  exact Ret.mk (((Ext.refl w).alloc _).trans h1)
set_option maxHeartbeats 400000 in
theorem rbOfMk_any (w : World) (l p r : Tr) (red : Bool) (hl : InH w l) (hp : InH w p) (hr : InH w r) (hto : TagsOk l) : Calls Tryz.prog 218 #[.agg #[], .pointer l.ptr, .pointer p.ptr, .bool red, .pointer r.ptr] w (New l p.key p.val (rbTag l red) r w) := by
  have hE := (Ext.refl w).alloc (.cells #[] 170)
  have H := Lib.hid (fun W (h : Ext w W) => rbMake_any W l r p.key p.val red (hl.ext h) (hr.ext h) hto)
  clear hto
  go_enter Tryz.func218, Tryz.ntmps218
  go_wp2_with fail
  refine (key_any _ p (hp.ext hE)).mono ?_
  rintro e w1 ⟨rfl, h1⟩
  have h01 := hE.trans h1
  go_wp2_with fail
  refine (val_any _ p (hp.ext h01)).mono ?_
  rintro e w2 ⟨rfl, h2⟩
  have h02 := h01.trans h2
  go_wp2_with fail
  refine (H.out w2 h02).mono ?_
  rintro e w3 ⟨b, rfl, hb, ht, h3⟩
  go_wp2
  go_ret
  exact ⟨b, rfl, Nat.le_trans h02.size hb, ht, h02.trans h3⟩
set_option maxHeartbeats 400000 in
theorem rMkR_any (w : World) (i p o : Tr) (red : Bool) (hi : InH w i) (hp : InH w p) (ho : InH w o) (hto : TagsOk i) : Calls Tryz.prog 220 #[.agg #[], .pointer i.ptr, .pointer p.ptr, .bool red, .pointer o.ptr] w (New i p.key p.val (rbTag i red) o w) := by
  have hE := (Ext.refl w).alloc (.cells #[] 172)
  have hpz := part_zero w 172 (by kernel_rfl)
  have H := Lib.hid (fun W (h : Ext w W) => rbOfMk_any W i p o red (hi.ext h) (hp.ext h) (ho.ext h) hto)
  clear hto
  go_enter Tryz.func220, Tryz.ntmps220
  go_wp2_with fail
  refine (H.out _ hE).mono ?_
  rintro e w1 ⟨b, rfl, hb, ht, h1⟩
  go_wp2
  go_ret
  exact ⟨b, rfl, Nat.le_trans hE.size hb, ht, hE.trans h1⟩
set_option maxHeartbeats 400000 in
theorem rMkL_any (w : World) (i p o : Tr) (red : Bool) (hi : InH w i) (hp : InH w p) (ho : InH w o) (hto : TagsOk o) : Calls Tryz.prog 223 #[.agg #[], .pointer i.ptr, .pointer p.ptr, .bool red, .pointer o.ptr] w (New o p.key p.val (rbTag o red) i w) := by
  have hE := (Ext.refl w).alloc (.cells #[] 173)
  have hpz := part_zero w 173 (by kernel_rfl)
  have H := Lib.hid (fun W (h : Ext w W) => rbOfMk_any W o p i red (ho.ext h) (hp.ext h) (hi.ext h) hto)
  clear hto
  go_enter Tryz.func223, Tryz.ntmps223
  go_wp2_with fail
  refine (H.out _ hE).mono ?_
  rintro e w1 ⟨b, rfl, hb, ht, h1⟩
  go_wp2
  go_ret
  exact ⟨b, rfl, Nat.le_trans hE.size hb, ht, hE.trans h1⟩
theorem rIn_any (s : Bool) (w : World) (t : Tr) (ht : InH w t) : Calls Tryz.prog (rInF s) #[.agg #[], .pointer t.ptr] w (Ret (.pointer (inOf s t).ptr) w) := by
  cases s
  · exact rInL_any w t ht
  · exact rInR_any w t ht
theorem rOut_any (s : Bool) (w : World) (t : Tr) (ht : InH w t) : Calls Tryz.prog (rOutF s) #[.agg #[], .pointer t.ptr] w (Ret (.pointer (outOf s t).ptr) w) := by
  cases s
  · exact rOutL_any w t ht
  · exact rOutR_any w t ht
/-- a new node of a side. -/
def NewR (s : Bool) (i : Tr) (k v : Int) (red : Bool) (o : Tr) (w : World) (e : Ending) (w' : World) : Prop :=
  ∃ b, e = .returned (.pointer (mkN s b i k v (sTag s i red o) o).ptr) ∧ w.heap.size ≤ b ∧ InH w' (mkN s b i k v (sTag s i red o) o) ∧ Ext w w'
theorem rMk_any (s : Bool) (w : World) (i p o : Tr) (red : Bool) (hi : InH w i) (hp : InH w p) (ho : InH w o) (hti : TagsOk i) (hto : TagsOk o) : Calls Tryz.prog (rMkF s) #[.agg #[], .pointer i.ptr, .pointer p.ptr, .bool red, .pointer o.ptr] w (NewR s i p.key p.val red o w) := by
  cases s
  · exact rMkL_any w i p o red hi hp ho hto
  · exact rMkR_any w i p o red hi hp ho hti
/-- what hang hands back. -/
def RHangs (n : Nat) (s : Bool) (t low : Tr) (b : Nat) (c : Bool) (q : Nat) (k v : Int) (w : World) (e : Ending) (w' : World) : Prop :=
  ∃ T : Tr, e = .returned (.pointer T.ptr) ∧ RHang n s t low b c q k v T ∧ InH w' T ∧ Ext w w'
def RHangSpec (s : Bool) (n : Nat) (P low : Tr) (q : Nat) (t : Tr) : Prop :=
  ∀ (w : World) (b : Nat) (c : Bool), n ≤ w.heap.size → InH w t → InH w P → InH w low → RbH t b c → q ≤ b → b < 100000 → (inOf s t).news n = 0 → (outOf s t).news n = 0 → (q < b ∨ t.news n = 0) →
    Calls Tryz.prog 115 #[sideI s, .pointer t.ptr, .pointer P.ptr, .pointer low.ptr] w (RHangs n s t low b c q P.key P.val w)
theorem in_tags {s : Bool} {t : Tr} (h : TagsOk t) : TagsOk (inOf s t) := by
  cases s
  · exact tags_right h
  · exact tags_left h
theorem out_tags {s : Bool} {t : Tr} (h : TagsOk t) : TagsOk (outOf s t) := by
  cases s
  · exact tags_left h
  · exact tags_right h
theorem near_tags {s : Bool} {bx b : Nat} {i o : Tr} {k v g : Int} {co : Bool} (h1 : RbH i b false) (h2 : RbH o b co) (hg : g = 2 * (b : Int) + 1) (hb : b < 1000000) : TagsOk (mkN s bx i k v g o) ∧ rbRed (mkN s bx i k v g o) = true := by
  refine ⟨?_, ?_⟩
  · cases s
    · exact ⟨by omega, by omega, h2.tags hb, h1.tags hb⟩
    · exact ⟨by omega, by omega, h1.tags hb, h2.tags hb⟩
  · unfold rbRed col
    rw [mk_tag, hg]
    rw [beq_iff_eq]; omega
theorem news_sides {s : Bool} {n : Nat} {o : Tr} (h : o.news n = 0) : (inOf s o).news n = 0 ∧ (outOf s o).news n = 0 := by
  cases o with
  | nil => cases s <;> exact ⟨rfl, rfl⟩
  | node b l k v g r =>
    rw [mk_sides s b l k v g r, mk_news] at h
    omega
theorem black_mk (s : Bool) (b by_ : Nat) (yi yo : Tr) (yk yv yg : Int) : Tr.node b (mkN s by_ yi yk yv yg yo).left (mkN s by_ yi yk yv yg yo).key (mkN s by_ yi yk yv yg yo).val (IntKind.u64.wrap ((mkN s by_ yi yk yv yg yo).tag + 1)) (mkN s by_ yi yk yv yg yo).right = mkN s b yi yk yv (IntKind.u64.wrap (yg + 1)) yo := by
  cases s <;> rfl
theorem out_ok' {w : World} {s : Bool} {t : Tr} (h : InH w t) : InH w (outOf s t) := by
  cases s
  · exact left_ok h
  · exact right_ok h
theorem in_ok' {w : World} {s : Bool} {t : Tr} (h : InH w t) : InH w (inOf s t) := by
  cases s
  · exact right_ok h
  · exact left_ok h
set_option maxRecDepth 100000 in
set_option maxHeartbeats 8000000 in
theorem rhang_step (s : Bool) (n : Nat) (P low : Tr) (q : Nat) (hlow : RbH low q false) (t : Tr) (IH0 : t ≠ .nil → RHangSpec s n P low q (outOf s t)) : RHangSpec s n P low q t := by
  intro w b c hn ht hP hlw hA hqb hb hni hno hor
  have hfn : ∀ f, Fence.wide.fn f := fun _ => trivial
  have hci := rcall_in s
  have hco := rcall_out s
  have hcm := rcall_mk s
  have hmi := rmeth_in s
  have hmo := rmeth_out s
  have hmm := rmeth_mk s
  have hna := rahead_mk s
  have TT := Lib.hid (hA.tags (by omega))
  have TL := Lib.hid (hlow.tags (by omega))
  have AL := Lib.hid hlow
  have hx := Ext.refl w
  have HMB := Lib.hid (fun W (h : Ext w W) => rMk_any s W t P low true (ht.ext h) (hP.ext h) (hlw.ext h) TT.out TL.out)
  by_cases ht0 : t = .nil
  · subst ht0
    obtain ⟨hb0, rfl⟩ := hA
    have HZ := Lib.hid (show b = 0 ∧ q = 0 by omega)
    have hbi : (b : Int) ≤ (q : Int) := by omega
    have hund : undef = Value.tuple #[] := rfl
    rw [Tr.ptr_nil] at HMB ⊢
    clear IH0 hni hno hor hb0
    unfold sideI
    go_enter Tryz.func115, Tryz.ntmps115
    obtain ⟨m⟩ : Nonempty Nat := ⟨0⟩
    refine (wpIn_wide (n := m)).1 ?_
    gi_wp2_with fail
    refine ⟨wide_room _, (callsIn_wide.2 (HMB.out w hx)).mono ?_⟩
    rintro e w1 ⟨bn, rfl, hbn, hT, h1⟩
    gi_wp2
    go_ret
    obtain ⟨z1, z2⟩ := HZ.out
    subst z1
    exact ⟨_, rfl, by rw [show (0 : Nat) = q from z2.symm]; exact rhang_base bn ⟨z2, rfl⟩ AL.out (by omega) rfl rfl (Nat.le_trans hn hbn), hT, h1⟩
  · have IH := IH0 ht0
    clear IH0
    obtain ⟨bt, i, k, v, g, o, et⟩ := sides_ne s ht0
    have ET := Lib.hid et
    have e1 : inOf s t = i := by rw [et, inOf_mk]
    have e2 : outOf s t = o := by rw [et, outOf_mk]
    rw [e1] at hni
    rw [e2] at hno IH
    have ek : t.key = k ∧ t.val = v := by rw [et, mk_key, mk_val]; exact ⟨rfl, rfl⟩
    have ep : t.ptr = some ⟨bt, 0, none⟩ := by rw [et, mk_ptr]
    have hti := in_tags (s := s) TT.out
    rw [e1] at hti
    have HIN := Lib.hid (fun W (h : Ext w W) => rIn_any s W t (ht.ext h))
    have HOUT := Lib.hid (fun W (h : Ext w W) => rOut_any s W t (ht.ext h))
    have HRT := Lib.hid (fun W (h : Ext w W) => rbRed_any W t (ht.ext h) TT.out)
    have HHT := Lib.hid (fun W (h : Ext w W) => rbHigh_any W t (ht.ext h) TT.out)
    have HHL := Lib.hid (fun W (h : Ext w W) => rbHigh_any W low (hlw.ext h) TL.out)
    have hii := in_ok' (s := s) ht
    rw [e1] at hii
    have HM6 := Lib.hid (fun W x r (h : Ext w W) (hX : InH W x) (hT : TagsOk x) => rMk_any s W i t x r (hii.ext h) (ht.ext h) hX hti hT)
    rw [ep] at HMB HIN HOUT HRT HHT HM6 ⊢
    rw [e1] at HIN
    rw [e2] at HOUT
    rw [ek.1, ek.2] at HM6
    rw [hA.red] at HRT
    rw [hA.hi] at HHT
    rw [hlow.hi] at HHL
    have NI := Lib.hid hni
    have NS := Lib.hid (news_sides (s := s) hno)
    have NO := Lib.hid hno
    have HPI := Lib.hid (fun W (h : Ext w W) => hP.ext h)
    have HLI := Lib.hid (fun W (h : Ext w W) => hlw.ext h)
    have hoo := out_ok' (s := s) ht
    rw [e2] at hoo
    have HOI := Lib.hid (fun W (h : Ext w W) => hoo.ext h)
    unfold sideI
    cases c with
    | true =>
      have hAt := hA
      rw [et] at hAt
      obtain ⟨a1, a2, a3⟩ := mk_red.1 hAt
      have AI := Lib.hid a1
      have AO := Lib.hid a2
      have HIH := Lib.hid (fun W (h : Ext w W) => IH W b false (Nat.le_trans hn h.size) (HOI.out W h) (HPI.out W h) (HLI.out W h) a2 hqb hb NS.out.1 NS.out.2 (.inr NO.out))
      clear IH hA hAt a1 a2 a3 hlow ht hP hlw hii hoo hti e1 e2 et ek ep hni hno ht0 hor
      go_enter Tryz.func115, Tryz.ntmps115
      obtain ⟨m⟩ : Nonempty Nat := ⟨0⟩
      refine (wpIn_wide (n := m)).1 ?_
      gi_wp2_with fail
      refine ⟨wide_room _, (callsIn_wide.2 (HRT.out w hx)).mono ?_⟩
      rintro e w1 ⟨rfl, hS⟩
      replace hx := hx.trans hS
      clear hS
      gi_wp2_with fail
      refine ⟨wide_room _, (callsIn_wide.2 (HOUT.out w1 hx)).mono ?_⟩
      rintro e w2 ⟨rfl, hS⟩
      replace hx := hx.trans hS
      clear hS
      gi_wp2_with fail
      refine ⟨wide_room _, (callsIn_wide.2 (HIH.out w2 hx)).mono ?_⟩
      rintro e w3 ⟨x, rfl, hok, hX, hS⟩
      replace hx := hx.trans hS
      clear hS
      have HOK := Lib.hid hok
      have TX : Hid (TagsOk x) := Lib.hid (by obtain ⟨cx, h1, -⟩ := hok.black rfl; exact h1.tags (by omega))
      clear hok
      gi_wp2_with fail
      refine ⟨wide_room _, (callsIn_wide.2 (HRT.out w3 hx)).mono ?_⟩
      rintro e W6 ⟨rfl, hS⟩
      replace hx := hx.trans hS
      replace hX := hX.ext hS
      clear hS
      gi_wp2_with fail
      have hxd := Ext.drew W6
      refine wpIn_region_G (fun j => !(List.contains (α := Nat) [11] j)) (by kernel_rfl) ?_
      refine batchG hfn (fuel := 4) [0, 1, 2, 4, 5, 7, 8, 9, 10] (by kernel_rfl) rfl ?_
      repeat (go_big_quiet_step ((fail)))
      refine wpQuiet_nil ?_
      refine wpAnyG_one (j := 3) (by kernel_rfl) rfl ?_
      gi_wp2_with fail
      refine ⟨wide_room _, (callsIn_wide.2 (HIN.out _ (hx.trans hxd))).mono ?_⟩
      rintro e w7 ⟨rfl, h7⟩
      gi_wp2_with fail
      refine onePost_ext (h7) ?_
      have h67 := hxd.trans h7
      refine wpAnyG_one (j := 6) (by kernel_rfl) rfl ?_
      gi_wp2_with fail
      refine ⟨wide_room _, (callsIn_wide.2 (HRT.out _ (hx.trans h67))).mono ?_⟩
      rintro e w8 ⟨rfl, h8⟩
      gi_wp2_with fail
      refine onePost_ext (h8) ?_
      have h68 := h67.trans h8
      refine wpAnyG_one (j := 11) (by kernel_rfl) rfl ?_
      gi_wp2_with fail
      refine ⟨wide_room _, (callsIn_wide.2 (HM6.out _ x true (hx.trans h68) (hX.ext h68) TX.out)).mono ?_⟩
      rintro e w9 ⟨bn, rfl, hbn, hT, h9⟩
      gi_wp2_with fail
      refine onePost_any (by kernel_rfl) ?_
      refine batchG hfn (fuel := 0) [12] (by kernel_rfl) rfl ?_
      repeat (go_big_quiet_step ((fail)))
      refine wpQuiet_nil ?_
      refine wpAnyG_done (by kernel_rfl) ?_
      refine calmQ_normal ?_
      gi_wp2
      go_ret
      have hnb : n ≤ bn := Nat.le_trans hn (Nat.le_trans (hx.trans h68).size hbn)
      refine ⟨_, rfl, ?_, hT, (hx.trans h68).trans h9⟩
      rw [ET.out]
      exact rhang_red bn AI.out HOK.out hb NI.out hnb
    | false =>
      by_cases hbase : b ≤ q
      · have hbi : (b : Int) ≤ (q : Int) := by omega
        obtain rfl : b = q := by omega
        have hnt : t.news n = 0 := by
          rcases hor with h | h
          · omega
          · exact h
        have AT := Lib.hid hA
        have NT := Lib.hid hnt
        clear IH hA hlow ht hP hlw hii hoo hti e1 e2 et ek ep hni hno ht0 hor hnt
        go_enter Tryz.func115, Tryz.ntmps115
        obtain ⟨m⟩ : Nonempty Nat := ⟨0⟩
        refine (wpIn_wide (n := m)).1 ?_
        gi_wp2_with fail
        refine ⟨wide_room _, (callsIn_wide.2 (HRT.out w hx)).mono ?_⟩
        rintro e w' ⟨rfl, hS⟩
        replace hx := hx.trans hS
        gi_wp2_with fail
        refine ⟨wide_room _, (callsIn_wide.2 (HHT.out _ hx)).mono ?_⟩
        rintro e w' ⟨rfl, hS⟩
        replace hx := hx.trans hS
        gi_wp2_with fail
        refine ⟨wide_room _, (callsIn_wide.2 (HHL.out _ hx)).mono ?_⟩
        rintro e w' ⟨rfl, hS⟩
        replace hx := hx.trans hS
        clear hS
        gi_wp2_with fail
        refine ⟨wide_room _, (callsIn_wide.2 (HMB.out _ hx)).mono ?_⟩
        rintro e w5 ⟨bn, rfl, hbn, hT, h5⟩
        gi_wp2
        go_ret
        exact ⟨_, rfl, rhang_base bn AT.out AL.out hb rfl NT.out (Nat.le_trans hn (Nat.le_trans hx.size hbn)), hT, hx.trans h5⟩
      · have hbi : ¬ (b : Int) ≤ (q : Int) := by omega
        have hAt := hA
        rw [et] at hAt
        obtain ⟨d, ci, co, a0, a1, a2, a3⟩ := mk_black.1 hAt
        subst a0
        have AI := Lib.hid a1
        have AO := Lib.hid a2
        have hd : d < 100000 := by omega
        have HIH := Lib.hid (fun W (h : Ext w W) => IH W d co (Nat.le_trans hn h.size) (HOI.out W h) (HPI.out W h) (HLI.out W h) a2 (by omega) (by omega) NS.out.1 NS.out.2 (.inr NO.out))
        clear IH hA hAt a1 a2 a3 hlow ht hP hlw hii hoo hti e1 e2 et ek ep hni hno ht0 hor
        go_enter Tryz.func115, Tryz.ntmps115
        obtain ⟨m⟩ : Nonempty Nat := ⟨0⟩
        refine (wpIn_wide (n := m)).1 ?_
        gi_wp2_with fail
        refine ⟨wide_room _, (callsIn_wide.2 (HRT.out w hx)).mono ?_⟩
        rintro e w' ⟨rfl, hS⟩
        replace hx := hx.trans hS
        gi_wp2_with fail
        refine ⟨wide_room _, (callsIn_wide.2 (HHT.out _ hx)).mono ?_⟩
        rintro e w' ⟨rfl, hS⟩
        replace hx := hx.trans hS
        gi_wp2_with fail
        refine ⟨wide_room _, (callsIn_wide.2 (HHL.out _ hx)).mono ?_⟩
        rintro e w1 ⟨rfl, hS⟩
        replace hx := hx.trans hS
        clear hS
        gi_wp2_with fail
        refine ⟨wide_room _, (callsIn_wide.2 (HOUT.out w1 hx)).mono ?_⟩
        rintro e w2 ⟨rfl, hS⟩
        replace hx := hx.trans hS
        clear hS
        gi_wp2_with fail
        refine ⟨wide_room _, (callsIn_wide.2 (HIH.out w2 hx)).mono ?_⟩
        rintro e w3 ⟨x, rfl, hok, hX, hS⟩
        replace hx := hx.trans hS
        clear hS
        gi_wp2_with fail
        refine ⟨wide_room _, (callsIn_wide.2 (HRT.out w3 hx)).mono ?_⟩
        rintro e w4 ⟨rfl, hS⟩
        replace hx := hx.trans hS
        replace hX := hX.ext hS
        clear hS
        cases co with
        | false =>
          obtain ⟨cx, xx, -⟩ := hok.black rfl
          have HOK := Lib.hid hok
          have XX := Lib.hid xx
          have TX := Lib.hid (xx.tags (by omega))
          have RX := Lib.hid xx.red
          clear hok xx
          cases cx with
          | false =>
            gi_wp2_with fail
            refine ⟨wide_room _, (callsIn_wide.2 (rbRed_any _ x hX TX.out)).mono ?_⟩
            rw [RX.out]
            rintro e W6 ⟨rfl, hS⟩
            replace hx := hx.trans hS
            replace hX := hX.ext hS
            clear hS
            gi_wp2_with fail
            have hxd := Ext.drew W6
            refine wpIn_region_G (fun j => !(List.contains (α := Nat) [11] j)) (by kernel_rfl) ?_
            refine batchG hfn (fuel := 4) [0, 1, 2, 4, 5, 7, 8, 9, 10] (by kernel_rfl) rfl ?_
            repeat (go_big_quiet_step ((fail)))
            refine wpQuiet_nil ?_
            refine wpAnyG_one (j := 3) (by kernel_rfl) rfl ?_
            gi_wp2_with fail
            refine ⟨wide_room _, (callsIn_wide.2 (HIN.out _ (hx.trans hxd))).mono ?_⟩
            rintro e w7 ⟨rfl, h7⟩
            gi_wp2_with fail
            refine onePost_ext (h7) ?_
            have h67 := hxd.trans h7
            refine wpAnyG_one (j := 6) (by kernel_rfl) rfl ?_
            gi_wp2_with fail
            refine ⟨wide_room _, (callsIn_wide.2 (HRT.out _ (hx.trans h67))).mono ?_⟩
            rintro e w8 ⟨rfl, h8⟩
            gi_wp2_with fail
            refine onePost_ext (h8) ?_
            have h68 := h67.trans h8
            refine wpAnyG_one (j := 11) (by kernel_rfl) rfl ?_
            gi_wp2_with fail
            refine ⟨wide_room _, (callsIn_wide.2 (HM6.out _ x false (hx.trans h68) (hX.ext h68) TX.out)).mono ?_⟩
            rintro e w9 ⟨bn, rfl, hbn, hT, h9⟩
            gi_wp2_with fail
            refine onePost_any (by kernel_rfl) ?_
            refine batchG hfn (fuel := 0) [12] (by kernel_rfl) rfl ?_
            repeat (go_big_quiet_step ((fail)))
            refine wpQuiet_nil ?_
            refine wpAnyG_done (by kernel_rfl) ?_
            refine calmQ_normal ?_
            gi_wp2
            go_ret
            have hnb : n ≤ bn := Nat.le_trans hn (Nat.le_trans (hx.trans h68).size hbn)
            refine ⟨_, rfl, ?_, hT, (hx.trans h68).trans h9⟩
            rw [ET.out]
            exact rhang_black bn AI.out HOK.out hd ⟨_, XX.out⟩ NI.out hnb
          | true =>
            have ROX : Hid (rbRed (outOf s x) = false) := Lib.hid (by
              obtain ⟨bx, xi, xk, xv, xg, xo, ex⟩ := sides_ne s HOK.out.nn
              have h := XX.out
              rw [ex] at h
              rw [ex, outOf_mk]
              exact (mk_red.1 h).2.1.red)
            gi_wp2_with fail
            refine ⟨wide_room _, (callsIn_wide.2 (rbRed_any _ x hX TX.out)).mono ?_⟩
            rw [RX.out]
            rintro e w5 ⟨rfl, hS⟩
            replace hx := hx.trans hS
            replace hX := hX.ext hS
            clear hS
            gi_wp2_with fail
            refine ⟨wide_room _, (callsIn_wide.2 (rOut_any s _ x hX)).mono ?_⟩
            rintro e w5' ⟨rfl, hS⟩
            replace hx := hx.trans hS
            replace hX := hX.ext hS
            clear hS
            gi_wp2_with fail
            refine ⟨wide_room _, (callsIn_wide.2 (rbRed_any _ (outOf s x) (out_ok' hX) (out_tags TX.out))).mono ?_⟩
            rw [ROX.out]
            rintro e W6 ⟨rfl, hS⟩
            replace hx := hx.trans hS
            replace hX := hX.ext hS
            clear hS
            gi_wp2_with fail
            have hxd := Ext.drew W6
            refine wpIn_region_G (fun j => !(List.contains (α := Nat) [11] j)) (by kernel_rfl) ?_
            refine batchG hfn (fuel := 4) [0, 1, 2, 4, 5, 7, 8, 9, 10] (by kernel_rfl) rfl ?_
            repeat (go_big_quiet_step ((fail)))
            refine wpQuiet_nil ?_
            refine wpAnyG_one (j := 3) (by kernel_rfl) rfl ?_
            gi_wp2_with fail
            refine ⟨wide_room _, (callsIn_wide.2 (HIN.out _ (hx.trans hxd))).mono ?_⟩
            rintro e w7 ⟨rfl, h7⟩
            gi_wp2_with fail
            refine onePost_ext (h7) ?_
            have h67 := hxd.trans h7
            refine wpAnyG_one (j := 6) (by kernel_rfl) rfl ?_
            gi_wp2_with fail
            refine ⟨wide_room _, (callsIn_wide.2 (HRT.out _ (hx.trans h67))).mono ?_⟩
            rintro e w8 ⟨rfl, h8⟩
            gi_wp2_with fail
            refine onePost_ext (h8) ?_
            have h68 := h67.trans h8
            refine wpAnyG_one (j := 11) (by kernel_rfl) rfl ?_
            gi_wp2_with fail
            refine ⟨wide_room _, (callsIn_wide.2 (HM6.out _ x false (hx.trans h68) (hX.ext h68) TX.out)).mono ?_⟩
            rintro e w9 ⟨bn, rfl, hbn, hT, h9⟩
            gi_wp2_with fail
            refine onePost_any (by kernel_rfl) ?_
            refine batchG hfn (fuel := 0) [12] (by kernel_rfl) rfl ?_
            repeat (go_big_quiet_step ((fail)))
            refine wpQuiet_nil ?_
            refine wpAnyG_done (by kernel_rfl) ?_
            refine calmQ_normal ?_
            gi_wp2
            go_ret
            have hnb : n ≤ bn := Nat.le_trans hn (Nat.le_trans (hx.trans h68).size hbn)
            refine ⟨_, rfl, ?_, hT, (hx.trans h68).trans h9⟩
            rw [ET.out]
            exact rhang_black bn AI.out HOK.out hd ⟨_, XX.out⟩ NI.out hnb
        | true =>
          obtain ⟨bx, xi, xk, xv, xg, xo, cy, ex, hbx, hxi, hxo, hxg, hxn⟩ := hok.red rfl
          have HOK := Lib.hid hok
          have EX := Lib.hid ex
          have NT := near_tags (s := s) (bx := bx) (k := xk) (v := xv) hxi hxo hxg (by omega)
          rw [← ex] at NT
          have TX := Lib.hid NT.1
          have RX := Lib.hid NT.2
          have ROX := Lib.hid (show rbRed (outOf s x) = cy by rw [ex, outOf_mk]; exact hxo.red)
          have XS := Lib.hid (And.intro hxi (And.intro hxo (And.intro hxg hxn)))
          clear hok NT ex hxi hxo hxg hxn
          cases cy with
          | false =>
            gi_wp2_with fail
            refine ⟨wide_room _, (callsIn_wide.2 (rbRed_any _ x hX TX.out)).mono ?_⟩
            rw [RX.out]
            rintro e w5 ⟨rfl, hS⟩
            replace hx := hx.trans hS
            replace hX := hX.ext hS
            clear hS
            gi_wp2_with fail
            refine ⟨wide_room _, (callsIn_wide.2 (rOut_any s _ x hX)).mono ?_⟩
            rintro e w5' ⟨rfl, hS⟩
            replace hx := hx.trans hS
            replace hX := hX.ext hS
            clear hS
            gi_wp2_with fail
            refine ⟨wide_room _, (callsIn_wide.2 (rbRed_any _ (outOf s x) (out_ok' hX) (out_tags TX.out))).mono ?_⟩
            rw [ROX.out]
            rintro e W6 ⟨rfl, hS⟩
            replace hx := hx.trans hS
            replace hX := hX.ext hS
            clear hS
            gi_wp2_with fail
            have hxd := Ext.drew W6
            refine wpIn_region_G (fun j => !(List.contains (α := Nat) [11] j)) (by kernel_rfl) ?_
            refine batchG hfn (fuel := 4) [0, 1, 2, 4, 5, 7, 8, 9, 10] (by kernel_rfl) rfl ?_
            repeat (go_big_quiet_step ((fail)))
            refine wpQuiet_nil ?_
            refine wpAnyG_one (j := 3) (by kernel_rfl) rfl ?_
            gi_wp2_with fail
            refine ⟨wide_room _, (callsIn_wide.2 (HIN.out _ (hx.trans hxd))).mono ?_⟩
            rintro e w7 ⟨rfl, h7⟩
            gi_wp2_with fail
            refine onePost_ext (h7) ?_
            have h67 := hxd.trans h7
            refine wpAnyG_one (j := 6) (by kernel_rfl) rfl ?_
            gi_wp2_with fail
            refine ⟨wide_room _, (callsIn_wide.2 (HRT.out _ (hx.trans h67))).mono ?_⟩
            rintro e w8 ⟨rfl, h8⟩
            gi_wp2_with fail
            refine onePost_ext (h8) ?_
            have h68 := h67.trans h8
            refine wpAnyG_one (j := 11) (by kernel_rfl) rfl ?_
            gi_wp2_with fail
            refine ⟨wide_room _, (callsIn_wide.2 (HM6.out _ x false (hx.trans h68) (hX.ext h68) TX.out)).mono ?_⟩
            rintro e w9 ⟨bn, rfl, hbn, hT, h9⟩
            gi_wp2_with fail
            refine onePost_any (by kernel_rfl) ?_
            refine batchG hfn (fuel := 0) [12] (by kernel_rfl) rfl ?_
            repeat (go_big_quiet_step ((fail)))
            refine wpQuiet_nil ?_
            refine wpAnyG_done (by kernel_rfl) ?_
            refine calmQ_normal ?_
            gi_wp2
            go_ret
            have hnb : n ≤ bn := Nat.le_trans hn (Nat.le_trans (hx.trans h68).size hbn)
            refine ⟨_, rfl, ?_, hT, (hx.trans h68).trans h9⟩
            rw [ET.out]
            exact rhang_black bn AI.out HOK.out hd ⟨true, by rw [EX.out]; exact mk_red.2 ⟨XS.out.1, XS.out.2.1, XS.out.2.2.1⟩⟩ NI.out hnb
          | true =>
            gi_wp2_with fail
            refine ⟨wide_room _, (callsIn_wide.2 (rbRed_any _ x hX TX.out)).mono ?_⟩
            rw [RX.out]
            rintro e w5 ⟨rfl, hS⟩
            replace hx := hx.trans hS
            replace hX := hX.ext hS
            clear hS
            gi_wp2_with fail
            refine ⟨wide_room _, (callsIn_wide.2 (rOut_any s _ x hX)).mono ?_⟩
            rintro e w5' ⟨rfl, hS⟩
            replace hx := hx.trans hS
            replace hX := hX.ext hS
            clear hS
            gi_wp2_with fail
            refine ⟨wide_room _, (callsIn_wide.2 (rbRed_any _ (outOf s x) (out_ok' hX) (out_tags TX.out))).mono ?_⟩
            rw [ROX.out]
            rintro e W6 ⟨rfl, hS⟩
            replace hx := hx.trans hS
            replace hX := hX.ext hS
            clear hS
            have TI := Lib.hid (AI.out.tags (by omega))
            gi_wp2_with fail
            have hxd := Ext.drew W6
            refine wpIn_region_G (fun j => !(List.contains (α := Nat) [21] j)) (by kernel_rfl) ?_
            refine batchG hfn (fuel := 7) [0, 1, 2, 3, 5, 6, 7, 9, 10, 11, 13, 14, 15, 18, 19, 20] (by kernel_rfl) rfl ?_
            repeat (go_big_quiet_step ((fail)))
            refine wpQuiet_nil ?_
            refine wpAnyG_one (j := 4) (by kernel_rfl) rfl ?_
            gi_wp2_with fail
            refine ⟨wide_room _, (callsIn_wide.2 (HIN.out _ (hx.trans hxd))).mono ?_⟩
            rintro e w7 ⟨rfl, h7⟩
            gi_wp2_with fail
            refine onePost_ext (h7) ?_
            have h67 := hxd.trans h7
            refine wpAnyG_one (j := 8) (by kernel_rfl) rfl ?_
            gi_wp2_with fail
            refine ⟨wide_room _, (callsIn_wide.2 (rIn_any s _ x (hX.ext h67))).mono ?_⟩
            rintro e w8 ⟨rfl, h8⟩
            gi_wp2_with fail
            refine onePost_ext (h8) ?_
            have h68 := h67.trans h8
            refine wpAnyG_one (j := 12) (by kernel_rfl) rfl ?_
            gi_wp2_with fail
            refine ⟨wide_room _, (callsIn_wide.2 (HM6.out _ (inOf s x) false (hx.trans h68) (in_ok' (hX.ext h68)) (in_tags TX.out))).mono ?_⟩
            rintro e w9 ⟨b3, rfl, hb3, hT3, h9⟩
            obtain ⟨T3, e3⟩ : ∃ T3, T3 = mkN s b3 i k v (sTag s i false (inOf s x)) (inOf s x) := ⟨_, rfl⟩
            rw [← e3] at hT3 ⊢
            have E3 := Lib.hid e3
            clear e3
            gi_wp2_with fail
            refine onePost_ext (h9) ?_
            have h69 := h68.trans h9
            refine wpAnyG_one (j := 16) (by kernel_rfl) rfl ?_
            gi_wp2_with fail
            refine ⟨wide_room _, (callsIn_wide.2 (rOut_any s _ x (hX.ext h69))).mono ?_⟩
            rintro e w10 ⟨rfl, h10⟩
            gi_wp2_with fail
            refine onePost_ext (h10) ?_
            have h610 := h69.trans h10
            refine wpAnyG_one (j := 17) (by kernel_rfl) rfl ?_
            gi_wp2_with fail
            refine ⟨wide_room _, (callsIn_wide.2 (rbBlacken_any _ (outOf s x) (out_ok' (hX.ext h610)) (out_tags TX.out))).mono ?_⟩
            rintro e w11 ⟨u, rfl, hu, h11, hor⟩
            have HB5 : Hid (∃ b4, w10.heap.size ≤ b4 ∧ u = .node b4 (outOf s x).left (outOf s x).key (outOf s x).val (IntKind.u64.wrap ((outOf s x).tag + 1)) (outOf s x).right) := Lib.hid (by
              rcases hor with ⟨h, -⟩ | ⟨-, h⟩
              · rw [ROX.out] at h; cases h
              · exact h)
            have TU := Lib.hid (black_tags (out_tags TX.out) hor).1
            clear hor
            gi_wp2_with fail
            refine onePost_ext (h11) ?_
            have h611 := h610.trans h11
            have T3T : Hid (TagsOk T3) := Lib.hid (by
              rw [E3.out]
              have hxi := XS.out.1
              rw [EX.out, inOf_mk]
              exact (show RbH (mkN s b3 i k v (sTag s i false xi) xi) (d + 1) false from mk_black.2 ⟨d, ci, false, rfl, AI.out, hxi, sTag_black AI.out hxi (by omega)⟩).tags (by omega))
            refine wpAnyG_one (j := 21) (by kernel_rfl) rfl ?_
            gi_wp2_with fail
            refine ⟨wide_room _, (callsIn_wide.2 (rMk_any s _ T3 x u true ((hT3.ext h10).ext h11) (hX.ext h611) hu T3T.out TU.out)).mono ?_⟩
            rintro e w12 ⟨b5, rfl, hb5, hT5, h12⟩
            gi_wp2_with fail
            refine onePost_any (by kernel_rfl) ?_
            refine batchG hfn (fuel := 0) [22] (by kernel_rfl) rfl ?_
            repeat (go_big_quiet_step ((fail)))
            refine wpQuiet_nil ?_
            refine wpAnyG_done (by kernel_rfl) ?_
            refine calmQ_normal ?_
            gi_wp2
            go_ret
            refine ⟨_, rfl, ?_, hT5, (hx.trans h611).trans h12⟩
            have s8 := (hx.trans h68).size
            have s10 := (hx.trans h610).size
            have s11 := (hx.trans h611).size
            obtain ⟨b4, hb4, eu⟩ := HB5.out
            have hok := HOK.out
            obtain ⟨hxi, hxo, hxg, hxn⟩ := XS.out
            have ex := EX.out
            rw [ET.out, E3.out, eu]
            rw [ex] at hok ⊢
            simp only [inOf_mk, outOf_mk, mk_key, mk_val]
            obtain ⟨by_, yi, yk, yv, yg, yo, ey⟩ := sides_ne s (show xo ≠ .nil from fun h => by rw [h] at hxo; exact absurd hxo.2 (by simp))
            subst ey
            rw [black_mk]
            have hyn := hxn (by trivial)
            rw [inOf_mk, outOf_mk] at hyn
            exact rhang_turn b3 b4 b5 AI.out hok hd hxi hxo hbx hyn NI.out (by omega) (by omega) (by omega)
/-- **hang**, at any part that is no lower, and a lower one. -/
theorem rhang_any (s : Bool) (n : Nat) (P low : Tr) (q : Nat) (hlow : RbH low q false) : ∀ t : Tr, RHangSpec s n P low q t := by
  intro t
  induction t with
  | nil => exact rhang_step s n P low q hlow .nil (fun h => (h rfl).elim)
  | node b l k v g r ihl ihr =>
    refine rhang_step s n P low q hlow _ (fun _ => ?_)
    cases s
    · exact ihl
    · exact ihr
end Go.Proofs.YtoiohjifjmejkaaGreat
