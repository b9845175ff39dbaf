/- The walk of SiftParts. -/
import Derived.Test.YteibbdieckephaaSift8
namespace Go.Proofs.Yteibbdieckephaa
open Go Go.RowKit

theorem filter_again (f : Int × Int → Bool) (l : List (Int × Int)) : (l.filter f).filter f = l.filter f := by simp
theorem filter_none (f : Int × Int → Bool) (l : List (Int × Int)) : (l.filter f).filter (fun z => !f z) = [] := by
  rw [List.filter_filter, List.filter_eq_nil_iff]
  intro z _
  cases f z <;> simp
theorem filter_both (f : Int × Int → Bool) : ∀ (l : List (Int × Int)), (l.filter f).length + (l.filter (fun z => !f z)).length = l.length
  | [] => rfl
  | z :: l => by
    have := filter_both f l
    cases h : f z <;> simp [h] <;> omega
theorem sTakes_not (kd : Nat) (a b : Int) (nt : Bool) (k v : Int) (h : sMay kd a b = true) : sTakes kd a b (!nt) k v = !sTakes kd a b nt k v := by
  unfold sTakes
  rw [h]
  cases sTk kd a b k v <;> cases nt <;> rfl
theorem fle (f : Int × Int → Bool) {l : List (Int × Int)} (h : l.length ≤ 200) : (l.filter f).length ≤ 5000 := Nat.le_trans (List.length_filter_le _ _) (Nat.le_trans h (by decide))
theorem fle2 (f : Int × Int → Bool) {l m : List (Int × Int)} (h : l.length ≤ 200) (h' : m.length ≤ 200) : (l.filter f).length + (m.filter f).length ≤ 10000 := by
  have := List.length_filter_le f l
  have := List.length_filter_le f m
  omega
theorem keepT {w : World} {kd : Nat} {a b : Int} {nt : Bool} {p : Value} {zs : List (Int × Int)} (hm : sMay kd a b = true) (hk : kd < 256) (hp : PRow w p zs) (hl : zs.length ≤ 5000) :
    Calls Try.prog 8 #[.agg #[.int .u8 kd, .int .i64 a, .int .i64 b, .bool nt], p] w fun e w' => ∃ v, e = .returned (.tuple #[v, .int .i64 0]) ∧ POwn w.heap.size w' v (zs.filter (fun z => sTakes kd a b nt z.1 z.2)) ∧ Ext w w' := by
  refine (keep_any w kd a b nt p zs hk hp hl).mono ?_
  rintro e w1 ⟨v, h1, h2, h3⟩
  rw [hm, if_pos rfl] at h2
  unfold eMay at h1
  rw [hm, if_pos rfl] at h1
  exact ⟨v, h1, h2, h3⟩
theorem splitT {w : World} {kd : Nat} {a b : Int} {nt : Bool} {p : Value} {zs : List (Int × Int)} (hm : sMay kd a b = true) (hk : kd < 256) (hp : PRow w p zs) (hl : zs.length ≤ 5000) :
    Calls Try.prog 9 #[.agg #[.int .u8 kd, .int .i64 a, .int .i64 b, .bool nt], p] w fun e w' => ∃ v u, e = .returned (.tuple #[v, u, .int .i64 0]) ∧ POwn w.heap.size w' v (zs.filter (fun z => sTakes kd a b nt z.1 z.2)) ∧ POwn w.heap.size w' u (zs.filter (fun z => !sTakes kd a b nt z.1 z.2)) ∧ Ext w w' := by
  refine (split_any w kd a b nt p zs hk hp hl).mono ?_
  rintro e w1 ⟨v, u, h1, h2, h2', h3⟩
  rw [hm, if_pos rfl] at h2 h2'
  unfold eMay at h1
  rw [hm, if_pos rfl] at h1
  exact ⟨v, u, h1, h2, h2', h3⟩
set_option maxRecDepth 100000 in
set_option maxHeartbeats 4000000 in
theorem siftParts_body (w : World) (kd : Nat) (a b : Int) (nt : Bool) (k v : Int) (p q : Value) (zs ys : List (Int × Int)) (hk : kd < 256) (hp : PRow w p zs) (hq : PRow w q ys) :
    Calls Try.prog 4 #[.agg #[.int .u8 kd, .int .i64 a, .int .i64 b, .bool nt], .agg #[.int .i64 k, .int .i64 v], p, q] w (Ret (.bool true) w) := by
  have hfn : ∀ f, Fence.wide.fn f := fun _ => trivial
  have HP := Lib.hid hp
  have HQ := Lib.hid hq
  obtain ⟨pa, pc, rfl⟩ := prow_slice hp
  obtain ⟨qa, qc, rfl⟩ := prow_slice hq
  obtain ⟨w1, hw1⟩ : ∃ w1, w1 = ((w.alloc (.cells #[.int .u8 kd, .int .i64 a, .int .i64 b, .bool nt] 23)).alloc (.cells #[.int .i64 k, .int .i64 v] 25)).alloc (.cells #[.int .u8 kd, .int .i64 a, .int .i64 b, .bool (!nt)] 23) := ⟨_, rfl⟩
  have hE : Ext w w1 := by rw [hw1]; exact (((Ext.refl w).alloc _).alloc _).alloc _
  have hb0 : w1.heap[w.heap.size]? = some (.cells #[.int .u8 kd, .int .i64 a, .int .i64 b, .bool nt] 23 (0, 0)) := by rw [hw1, alloc_lt _ _ _ (by simp; omega), alloc_lt _ _ _ (by simp)]; exact alloc_at _ _ _ rfl
  have hb1 : w1.heap[w.heap.size + 1]? = some (.cells #[.int .i64 k, .int .i64 v] 25 (0, 0)) := by rw [hw1, alloc_lt _ _ _ (by simp)]; exact alloc_at _ _ _ (by simp)
  have hb2 : w1.heap[w.heap.size + 1 + 1]? = some (.cells #[.int .u8 kd, .int .i64 a, .int .i64 b, .bool (!nt)] 23 (0, 0)) := by rw [hw1]; exact alloc_at _ _ _ (by simp)
  have HW := Lib.hid hw1
  have HB0 := Lib.hid hb0
  have HB1 := Lib.hid hb1
  have HB2 := Lib.hid hb2
  have HK := Lib.hid hk
  clear hw1 hp hq hk hb0 hb1 hb2
  by_cases hlen : zs.length ≤ 200 ∧ ys.length ≤ 200
  · have l1 : ¬ (200 : Int) < zs.length := by omega
    have l2 : ¬ (200 : Int) < ys.length := by omega
    have HL := Lib.hid hlen
    clear hlen
    cases hm : sMay kd a b with
    | false =>
      have t1 := Lib.hid (fun W => takes_v W kd a b nt k v HK.out false (by unfold sTakes; rw [hm]; rfl))
      have t2 := Lib.hid (fun W => takes_v W kd a b (!nt) k v HK.out false (by unfold sTakes; rw [hm]; rfl))
      have t3 := Lib.hid (fun W => may_v W kd a b nt HK.out false hm)
      have t4 := Lib.hid (fun W => may_v W kd a b (!nt) HK.out false hm)
      clear hm
      go_enter Try.func4, Try.ntmps4
      go_wp2_with fail
      rw [← HW.out]
      clear HW
      refine (t3.out _).mono ?_
      rintro e w2 ⟨rfl, hx⟩
      have hb0 := hx.get HB0.out
      have p0 := cell_of hb0 0
      have p1 := cell_of hb0 1
      have p2 := cell_of hb0 2
      have p3 := cell_of hb0 3
      have hb1 := hx.get HB1.out
      have q0 := cell_of hb1 0
      have q1 := cell_of hb1 1
      have hb2 := hx.get HB2.out
      have n0 := cell_of hb2 0
      have n1 := cell_of hb2 1
      have n2 := cell_of hb2 2
      have n3 := cell_of hb2 3
      simp at p0 p1 p2 p3 q0 q1 n0 n1 n2 n3
      clear hb0 hb1 hb2
      go_wp2_with fail
      clear p0 p1 p2 p3 q0 q1 n0 n1 n2 n3
      refine (t1.out _).mono ?_
      rintro e w3 ⟨rfl, hS⟩
      replace hx := hx.trans hS
      clear hS
      have hb0 := hx.get HB0.out
      have p0 := cell_of hb0 0
      have p1 := cell_of hb0 1
      have p2 := cell_of hb0 2
      have p3 := cell_of hb0 3
      have hb1 := hx.get HB1.out
      have q0 := cell_of hb1 0
      have q1 := cell_of hb1 1
      have hb2 := hx.get HB2.out
      have n0 := cell_of hb2 0
      have n1 := cell_of hb2 1
      have n2 := cell_of hb2 2
      have n3 := cell_of hb2 3
      simp at p0 p1 p2 p3 q0 q1 n0 n1 n2 n3
      clear hb0 hb1 hb2
      go_wp2_with fail
      clear p0 p1 p2 p3 q0 q1 n0 n1 n2 n3
      refine (t2.out _).mono ?_
      rintro e w4 ⟨rfl, hS⟩
      replace hx := hx.trans hS
      clear hS
      have hb0 := hx.get HB0.out
      have p0 := cell_of hb0 0
      have p1 := cell_of hb0 1
      have p2 := cell_of hb0 2
      have p3 := cell_of hb0 3
      have hb1 := hx.get HB1.out
      have q0 := cell_of hb1 0
      have q1 := cell_of hb1 1
      have hb2 := hx.get HB2.out
      have n0 := cell_of hb2 0
      have n1 := cell_of hb2 1
      have n2 := cell_of hb2 2
      have n3 := cell_of hb2 3
      simp at p0 p1 p2 p3 q0 q1 n0 n1 n2 n3
      clear hb0 hb1 hb2
      go_wp2_with fail
      clear p0 p1 p2 p3 q0 q1 n0 n1 n2 n3
      refine (t4.out _).mono ?_
      rintro e w5 ⟨rfl, hS⟩
      replace hx := hx.trans hS
      clear hS
      have hb0 := hx.get HB0.out
      have p0 := cell_of hb0 0
      have p1 := cell_of hb0 1
      have p2 := cell_of hb0 2
      have p3 := cell_of hb0 3
      have hb1 := hx.get HB1.out
      have q0 := cell_of hb1 0
      have q1 := cell_of hb1 1
      have hb2 := hx.get HB2.out
      have n0 := cell_of hb2 0
      have n1 := cell_of hb2 1
      have n2 := cell_of hb2 2
      have n3 := cell_of hb2 3
      simp at p0 p1 p2 p3 q0 q1 n0 n1 n2 n3
      clear hb0 hb1 hb2
      go_wp2_with fail
      clear p0 p1 p2 p3 q0 q1 n0 n1 n2 n3
      refine (alive06_any _).mono ?_
      rintro e w6 ⟨rfl, hS⟩
      replace hx := hx.trans hS
      clear hS
      go_wp2
      go_ret
      exact Ret.mk (hE.trans hx)
    | true =>
      obtain ⟨U, hU⟩ : ∃ U, sTakes kd a b nt k v = U := ⟨_, rfl⟩
      have t1 := Lib.hid (fun W => takes_v W kd a b nt k v HK.out U hU)
      have t2 := Lib.hid (fun W => takes_v W kd a b (!nt) k v HK.out (!U) (by rw [sTakes_not _ _ _ _ _ _ hm, hU]))
      have t3 := Lib.hid (fun W => may_v W kd a b nt HK.out true hm)
      have HM := Lib.hid hm
      obtain ⟨f, hf⟩ : ∃ f : Int × Int → Bool, (fun z => sTakes kd a b nt z.1 z.2) = f := ⟨_, rfl⟩
      have hfn2 : (fun z : Int × Int => sTakes kd a b (!nt) z.1 z.2) = fun z => !f z := by rw [← hf]; funext z; exact sTakes_not _ _ _ _ _ _ hm
      have ck := Lib.hid (fun W q l (h : PRow W q l) h' => keepT (nt := nt) hm HK.out h h')
      have cn := Lib.hid (fun W q l (h : PRow W q l) h' => keepT (nt := !nt) hm HK.out h h')
      have cs := Lib.hid (fun W q l (h : PRow W q l) h' => splitT (nt := nt) hm HK.out h h')
      have hfn3 : (fun z : Int × Int => !sTakes kd a b nt z.1 z.2) = fun z => !f z := by rw [← hf]
      simp only [hf] at ck
      simp only [hfn2] at cn
      simp only [hf, hfn3] at cs
      clear hm hU hf hfn2 hfn3
      go_enter Try.func4, Try.ntmps4
      go_wp2_with fail
      rw [← HW.out]
      clear HW
      refine (t3.out _).mono ?_
      rintro e w2 ⟨rfl, hx⟩
      go_wp2_with fail
      obtain ⟨m⟩ : Nonempty Nat := ⟨0⟩
      refine (wpIn_wide (n := m)).1 ?_
      have hb0 := hx.get HB0.out
      have p0 := cell_of hb0 0
      have p1 := cell_of hb0 1
      have p2 := cell_of hb0 2
      have p3 := cell_of hb0 3
      have hb1 := hx.get HB1.out
      have q0 := cell_of hb1 0
      have q1 := cell_of hb1 1
      have hb2 := hx.get HB2.out
      have n0 := cell_of hb2 0
      have n1 := cell_of hb2 1
      have n2 := cell_of hb2 2
      have n3 := cell_of hb2 3
      simp at p0 p1 p2 p3 q0 q1 n0 n1 n2 n3
      clear hb0 hb1 hb2
      replace p0 := cell_all p0
      replace p1 := cell_all p1
      replace p2 := cell_all p2
      replace p3 := cell_all p3
      replace q0 := cell_all q0
      replace q1 := cell_all q1
      replace n0 := cell_all n0
      replace n1 := cell_all n1
      replace n2 := cell_all n2
      replace n3 := cell_all n3
      have hd := Ext.drew w2
      refine wpIn_region_G (fun j => !(List.contains (α := Nat) [5] j)) (by kernel_rfl) ?_
      refine batchG hfn (fuel := 3) [0, 1, 3, 4] (by kernel_rfl) rfl ?_
      repeat (go_big_quiet_step ((fail)))
      refine wpQuiet_nil ?_
      clear p0 p1 p2 p3 q0 q1 n0 n1 n2 n3
      refine wpAnyG_one (j := 2) (by kernel_rfl) rfl ?_
      gi_wp2_with fail
      refine ⟨wide_room _, (callsIn_wide.2 (t1.out _)).mono ?_⟩
      rintro e w3 ⟨rfl, hS⟩
      replace hx := hx.trans (hd.trans hS)
      gi_wp2_with fail
      refine onePost_ext (hS) ?_
      clear hS hd
      refine wpAnyG_one (j := 5) (by kernel_rfl) rfl ?_
      gi_wp2_with fail
      refine ⟨wide_room _, (callsIn_wide.2 (t2.out _)).mono ?_⟩
      rintro e w4 ⟨rfl, hS⟩
      replace hx := hx.trans hS
      clear hS
      gi_wp2_with fail
      refine onePost_any (by kernel_rfl) ?_
      refine batchG hfn (fuel := 0) [6] (by kernel_rfl) rfl ?_
      repeat (go_big_quiet_step ((fail)))
      refine wpQuiet_nil ?_
      refine wpAnyG_done (by kernel_rfl) ?_
      refine calmQ_normal ?_
      obtain ⟨V, hV⟩ : ∃ V, (U == !U) = V := ⟨_, rfl⟩
      have hV' : V = false := by rw [← hV]; cases U <;> rfl
      subst hV'
      (try rw [hV])
      clear hV
      have hb0 := hx.get HB0.out
      have p0 := cell_of hb0 0
      have p1 := cell_of hb0 1
      have p2 := cell_of hb0 2
      have p3 := cell_of hb0 3
      have hb1 := hx.get HB1.out
      have q0 := cell_of hb1 0
      have q1 := cell_of hb1 1
      have hb2 := hx.get HB2.out
      have n0 := cell_of hb2 0
      have n1 := cell_of hb2 1
      have n2 := cell_of hb2 2
      have n3 := cell_of hb2 3
      simp at p0 p1 p2 p3 q0 q1 n0 n1 n2 n3
      clear hb0 hb1 hb2
      go_wp2_with fail
      clear p0 p1 p2 p3 q0 q1 n0 n1 n2 n3
      refine (ck.out _ _ _ (HP.out.ext (hE.trans hx)) (Nat.le_trans HL.out.1 (by decide))).mono ?_
      rintro e w5 ⟨vK, rfl, hoK, hS⟩
      replace hx := hx.trans hS
      have HKR := Lib.hid hoK.row
      clear hS hoK
      have hb0 := hx.get HB0.out
      have p0 := cell_of hb0 0
      have p1 := cell_of hb0 1
      have p2 := cell_of hb0 2
      have p3 := cell_of hb0 3
      have hb1 := hx.get HB1.out
      have q0 := cell_of hb1 0
      have q1 := cell_of hb1 1
      have hb2 := hx.get HB2.out
      have n0 := cell_of hb2 0
      have n1 := cell_of hb2 1
      have n2 := cell_of hb2 2
      have n3 := cell_of hb2 3
      simp at p0 p1 p2 p3 q0 q1 n0 n1 n2 n3
      clear hb0 hb1 hb2
      go_wp2_with fail
      clear p0 p1 p2 p3 q0 q1 n0 n1 n2 n3
      refine (ck.out _ _ _ (HQ.out.ext (hE.trans hx)) (Nat.le_trans HL.out.2 (by decide))).mono ?_
      rintro e w6 ⟨vL, rfl, hoL, hS⟩
      replace hx := hx.trans hS
      have HLR := Lib.hid hoL.row
      have HKR := Lib.hid (HKR.out.ext hS)
      clear hS hoL
      go_wp2_with fail
      refine (wpIn_wide (n := m)).1 ?_
      have hd := Ext.drew w6
      refine wpIn_region_G (fun j => !(List.contains (α := Nat) [0, 1, 2, 3, 4, 5] j)) (by kernel_rfl) ?_
      refine takeG0 hfn 1 (by kernel_rfl) rfl ?_
      repeat (go_big_quiet_step ((fail)))
      refine wpQuiet_nil ?_
      refine takeG0 hfn 3 (by kernel_rfl) rfl ?_
      repeat (go_big_quiet_step ((fail)))
      refine wpQuiet_nil ?_
      have hb0 := hx.get HB0.out
      have p0 := cell_of hb0 0
      have p1 := cell_of hb0 1
      have p2 := cell_of hb0 2
      have p3 := cell_of hb0 3
      have hb1 := hx.get HB1.out
      have q0 := cell_of hb1 0
      have q1 := cell_of hb1 1
      have hb2 := hx.get HB2.out
      have n0 := cell_of hb2 0
      have n1 := cell_of hb2 1
      have n2 := cell_of hb2 2
      have n3 := cell_of hb2 3
      simp at p0 p1 p2 p3 q0 q1 n0 n1 n2 n3
      clear hb0 hb1 hb2
      clear q0 q1 n0 n1 n2 n3
      refine wpAnyG_two (j := 0) (k := 2) (by kernel_rfl) rfl rfl ?_ ?_
      · gi_wp2_with fail
        refine onePost_any (by kernel_rfl) ?_
        clear p0 p1 p2 p3
        refine wpAnyG_one (j := 2) (by kernel_rfl) rfl ?_
        gi_wp2_with fail
        refine ⟨wide_room _, (callsIn_wide.2 (own_any _ _ zs ((HP.out.ext (hE.trans hx)).ext hd) (Nat.le_trans HL.out.1 (by decide)))).mono ?_⟩
        rintro e w7 ⟨v7, rfl, ho7, hS7⟩
        have HO7 := Lib.hid ho7
        clear ho7
        gi_wp2_with fail
        refine onePost_any (by kernel_rfl) ?_
        refine wpAnyG_one (j := 4) (by kernel_rfl) rfl ?_
        refine wpListIn_append_pairs (B := w6.heap.size) (zs := zs) (ys := ys) rfl (.tmp 80) (.tmp 81) rfl rfl rfl HO7.out (((HQ.out.ext (hE.trans hx)).ext hd).ext hS7) (by have := HL.out; omega) (hd.trans hS7).size hfn ?_
        intro v8 w8 ho8 hg8
        have h58 : Ext w6 w8 := hd.trans (pgrown_ext (w0 := w6.drew) hS7 HO7.out hg8)
        have HALL := Lib.hid ho8.row
        clear ho8 hg8
        simp only [Act.put, List.setIfInBounds_toArray, List.set_cons_zero, List.set_cons_succ]
        refine wpListIn_nil ?_
        refine onePost_any (by kernel_rfl) ?_
        refine wpAnyG_one (j := 5) (by kernel_rfl) rfl ?_
        gi_wp2_with fail
        refine ⟨wide_room _, (callsIn_wide.2 (ck.out w8 _ _ HALL.out (by have := HL.out; simp; omega))).mono ?_⟩
        rintro e w9 ⟨v9, rfl, ho9, hS⟩
        have H9 := Lib.hid ho9.row
        have HKR := Lib.hid (HKR.out.ext (h58.trans hS))
        have HLR := Lib.hid (HLR.out.ext (h58.trans hS))
        have hx := hx.trans (h58.trans hS)
        clear hS ho9 h58
        gi_wp2_with fail
        refine onePost_any (by kernel_rfl) ?_
        refine batchG hfn (fuel := 0) [6, 7, 8, 9, 10] (by kernel_rfl) rfl ?_
        repeat (go_big_quiet_step ((fail)))
        refine wpQuiet_nil ?_
        refine wpAnyG_done (by kernel_rfl) ?_
        refine calmQ_normal ?_
        have hb0 := hx.get HB0.out
        have p0 := cell_of hb0 0
        have p1 := cell_of hb0 1
        have p2 := cell_of hb0 2
        have p3 := cell_of hb0 3
        have hb1 := hx.get HB1.out
        have q0 := cell_of hb1 0
        have q1 := cell_of hb1 1
        have hb2 := hx.get HB2.out
        have n0 := cell_of hb2 0
        have n1 := cell_of hb2 1
        have n2 := cell_of hb2 2
        have n3 := cell_of hb2 3
        simp at p0 p1 p2 p3 q0 q1 n0 n1 n2 n3
        clear hb0 hb1 hb2
        go_wp2_with fail
        clear p0 p1 p2 p3 q0 q1 n0 n1 n2 n3
        refine (ck.out _ _ _ HKR.out (by exact Nat.le_trans (List.length_filter_le _ _) (Nat.le_trans HL.out.1 (by decide)))).mono ?_
        rintro e w10 ⟨v10, rfl, ho10, hS⟩
        replace hx := hx.trans hS
        have H10 := Lib.hid ho10.row
        have HKR := Lib.hid (HKR.out.ext hS)
        have HLR := Lib.hid (HLR.out.ext hS)
        have H9 := Lib.hid (H9.out.ext hS)
        clear hS ho10
        have hb0 := hx.get HB0.out
        have p0 := cell_of hb0 0
        have p1 := cell_of hb0 1
        have p2 := cell_of hb0 2
        have p3 := cell_of hb0 3
        have hb1 := hx.get HB1.out
        have q0 := cell_of hb1 0
        have q1 := cell_of hb1 1
        have hb2 := hx.get HB2.out
        have n0 := cell_of hb2 0
        have n1 := cell_of hb2 1
        have n2 := cell_of hb2 2
        have n3 := cell_of hb2 3
        simp at p0 p1 p2 p3 q0 q1 n0 n1 n2 n3
        clear hb0 hb1 hb2
        go_wp2_with fail
        clear p0 p1 p2 p3 q0 q1 n0 n1 n2 n3
        refine (cn.out _ _ _ HKR.out (by exact Nat.le_trans (List.length_filter_le _ _) (Nat.le_trans HL.out.1 (by decide)))).mono ?_
        rintro e w11 ⟨v11, rfl, ho11, hS⟩
        replace hx := hx.trans hS
        have H11 := Lib.hid ho11.row
        have HKR := Lib.hid (HKR.out.ext hS)
        have HLR := Lib.hid (HLR.out.ext hS)
        have H9 := Lib.hid (H9.out.ext hS)
        have H10 := Lib.hid (H10.out.ext hS)
        clear hS ho11
        have hb0 := hx.get HB0.out
        have p0 := cell_of hb0 0
        have p1 := cell_of hb0 1
        have p2 := cell_of hb0 2
        have p3 := cell_of hb0 3
        have hb1 := hx.get HB1.out
        have q0 := cell_of hb1 0
        have q1 := cell_of hb1 1
        have hb2 := hx.get HB2.out
        have n0 := cell_of hb2 0
        have n1 := cell_of hb2 1
        have n2 := cell_of hb2 2
        have n3 := cell_of hb2 3
        simp at p0 p1 p2 p3 q0 q1 n0 n1 n2 n3
        clear hb0 hb1 hb2
        go_wp2_with fail
        clear p0 p1 p2 p3 q0 q1 n0 n1 n2 n3
        refine (cs.out _ _ _ (HP.out.ext (hE.trans hx)) (Nat.le_trans HL.out.1 (by decide))).mono ?_
        rintro e w12 ⟨v12, u12, rfl, ho12, hq12, hS⟩
        replace hx := hx.trans hS
        have H12 := Lib.hid ho12.row
        have H13 := Lib.hid hq12.row
        have HKR := Lib.hid (HKR.out.ext hS)
        have HLR := Lib.hid (HLR.out.ext hS)
        have H9 := Lib.hid (H9.out.ext hS)
        have H10 := Lib.hid (H10.out.ext hS)
        have H11 := Lib.hid (H11.out.ext hS)
        clear hS ho12 hq12
        have hb0 := hx.get HB0.out
        have p0 := cell_of hb0 0
        have p1 := cell_of hb0 1
        have p2 := cell_of hb0 2
        have p3 := cell_of hb0 3
        have hb1 := hx.get HB1.out
        have q0 := cell_of hb1 0
        have q1 := cell_of hb1 1
        have hb2 := hx.get HB2.out
        have n0 := cell_of hb2 0
        have n1 := cell_of hb2 1
        have n2 := cell_of hb2 2
        have n3 := cell_of hb2 3
        simp at p0 p1 p2 p3 q0 q1 n0 n1 n2 n3
        clear hb0 hb1 hb2
        go_wp2_with fail
        clear p0 p1 p2 p3 q0 q1 n0 n1 n2 n3
        refine (own_any _ _ _ HKR.out (fle f HL.out.1)).mono ?_
        rintro e w13 ⟨v13, rfl, ho13, hS⟩
        have HO13 := Lib.hid ho13
        clear ho13
        go_wp2_with (at_builtin; refine wpList_append_pairs (B := w12.heap.size) (zs := zs.filter f) (ys := ys.filter f) rfl (.tmp 129) (.tmp 130) rfl rfl rfl HO13.out (HLR.out.ext hS) (fle2 f HL.out.1 HL.out.2) hS.size ?_)
        intro v14 w14 ho14 hg14
        have hA : Ext w12 w14 := pgrown_ext hS HO13.out hg14
        have HLL := Lib.hid (show PRow w14 v14 ((zs ++ ys).filter f) by rw [List.filter_append]; exact ho14.row)
        have HKR := Lib.hid (HKR.out.ext hA)
        have H9 := Lib.hid (H9.out.ext hA)
        have H10 := Lib.hid (show PRow w14 v10 (zs.filter f) by have := H10.out.ext hA; rwa [filter_again] at this)
        have H11 := Lib.hid (show PRow w14 v11 [] by have := H11.out.ext hA; rwa [filter_none] at this)
        have H12 := Lib.hid (H12.out.ext hA)
        have H13 := Lib.hid (H13.out.ext hA)
        have hx := hx.trans hA
        clear hS hg14 ho14 hA HO13 HLR
        go_wp2_with fail
        refine (samePairs04_any w14 _ _ _ H9.out HLL.out (by rw [List.filter_append, List.length_append]; exact Nat.le_trans (Nat.add_le_add (Nat.le_trans (List.length_filter_le _ _) HL.out.1) (Nat.le_trans (List.length_filter_le _ _) HL.out.2)) (by decide))).mono ?_
        rintro e w15 ⟨rfl, hS⟩
        have h145 := hS
        go_wp2_with fail
        refine (samePairs04_any w15 _ _ _ (H10.out.ext hS) (HKR.out.ext hS) (fle f HL.out.1)).mono ?_
        rintro e w16 ⟨rfl, hS2⟩
        have h146 := hS.trans hS2
        clear hS hS2 h145
        obtain ⟨n1, n2, rfl⟩ := prow_slice H11.out
        obtain ⟨n3, n4, rfl⟩ := prow_slice H12.out
        obtain ⟨n5, n6, rfl⟩ := prow_slice H13.out
        have HSUM := Lib.hid (filter_both f zs)
        rw [List.length_nil]
        generalize hc1 : (zs.filter f).length = c1 at *
        generalize hc2 : (zs.filter (fun z => !f z)).length = c2 at *
        have HC1 := Lib.hid hc1
        clear hc1 hc2
        go_wp2_with fail
        refine (samePairs04_any w16 _ _ _ (H12.out.ext h146) (HKR.out.ext h146) (fle f HL.out.1)).mono ?_
        rintro e w17 ⟨rfl, hS3⟩
        have hsum : wrap64 ((c1 : Int) + (c2 : Int)) = (zs.length : Int) := by have := HSUM.out; have := HL.out.1; unfold wrap64; omega
        have hx := hx.trans (h146.trans hS3)
        clear hS3 h146
        go_wp2_with fail
        refine (alive06_any _).mono ?_
        rintro e w18 ⟨rfl, hS⟩
        go_wp2
        go_ret
        exact Ret.mk ((hE.trans hx).trans hS)
      · clear p0 p1 p2 p3
        gi_wp2_with fail
        refine ⟨wide_room _, (callsIn_wide.2 (own_any _ _ zs ((HP.out.ext (hE.trans hx)).ext hd) (Nat.le_trans HL.out.1 (by decide)))).mono ?_⟩
        rintro e w7 ⟨v7, rfl, ho7, hS7⟩
        have HO7 := Lib.hid ho7
        clear ho7
        gi_wp2_with fail
        refine onePost_any (by kernel_rfl) ?_
        have hbb := ((hx.trans (hd.trans hS7))).get HB0.out
        have p0 := cell_of hbb 0
        have p1 := cell_of hbb 1
        have p2 := cell_of hbb 2
        have p3 := cell_of hbb 3
        simp at p0 p1 p2 p3
        refine wpAnyG_two (j := 0) (k := 4) (by kernel_rfl) rfl rfl ?_ ?_
        · gi_wp2_with fail
          refine onePost_any (by kernel_rfl) ?_
          clear p0 p1 p2 p3 hbb
          refine wpAnyG_one (j := 4) (by kernel_rfl) rfl ?_
          refine wpListIn_append_pairs (B := w6.heap.size) (zs := zs) (ys := ys) rfl (.tmp 80) (.tmp 81) rfl rfl rfl HO7.out (((HQ.out.ext (hE.trans hx)).ext hd).ext hS7) (by have := HL.out; omega) (hd.trans hS7).size hfn ?_
          intro v8 w8 ho8 hg8
          have h58 : Ext w6 w8 := hd.trans (pgrown_ext (w0 := w6.drew) hS7 HO7.out hg8)
          have HALL := Lib.hid ho8.row
          clear ho8 hg8
          simp only [Act.put, List.setIfInBounds_toArray, List.set_cons_zero, List.set_cons_succ]
          refine wpListIn_nil ?_
          refine onePost_any (by kernel_rfl) ?_
          refine wpAnyG_one (j := 5) (by kernel_rfl) rfl ?_
          gi_wp2_with fail
          refine ⟨wide_room _, (callsIn_wide.2 (ck.out w8 _ _ HALL.out (by have := HL.out; simp; omega))).mono ?_⟩
          rintro e w9 ⟨v9, rfl, ho9, hS⟩
          have H9 := Lib.hid ho9.row
          have HKR := Lib.hid (HKR.out.ext (h58.trans hS))
          have HLR := Lib.hid (HLR.out.ext (h58.trans hS))
          have hx := hx.trans (h58.trans hS)
          clear hS ho9 h58
          gi_wp2_with fail
          refine onePost_any (by kernel_rfl) ?_
          refine batchG hfn (fuel := 0) [6, 7, 8, 9, 10] (by kernel_rfl) rfl ?_
          repeat (go_big_quiet_step ((fail)))
          refine wpQuiet_nil ?_
          refine wpAnyG_done (by kernel_rfl) ?_
          refine calmQ_normal ?_
          have hb0 := hx.get HB0.out
          have p0 := cell_of hb0 0
          have p1 := cell_of hb0 1
          have p2 := cell_of hb0 2
          have p3 := cell_of hb0 3
          have hb1 := hx.get HB1.out
          have q0 := cell_of hb1 0
          have q1 := cell_of hb1 1
          have hb2 := hx.get HB2.out
          have n0 := cell_of hb2 0
          have n1 := cell_of hb2 1
          have n2 := cell_of hb2 2
          have n3 := cell_of hb2 3
          simp at p0 p1 p2 p3 q0 q1 n0 n1 n2 n3
          clear hb0 hb1 hb2
          go_wp2_with fail
          clear p0 p1 p2 p3 q0 q1 n0 n1 n2 n3
          refine (ck.out _ _ _ HKR.out (by exact Nat.le_trans (List.length_filter_le _ _) (Nat.le_trans HL.out.1 (by decide)))).mono ?_
          rintro e w10 ⟨v10, rfl, ho10, hS⟩
          replace hx := hx.trans hS
          have H10 := Lib.hid ho10.row
          have HKR := Lib.hid (HKR.out.ext hS)
          have HLR := Lib.hid (HLR.out.ext hS)
          have H9 := Lib.hid (H9.out.ext hS)
          clear hS ho10
          have hb0 := hx.get HB0.out
          have p0 := cell_of hb0 0
          have p1 := cell_of hb0 1
          have p2 := cell_of hb0 2
          have p3 := cell_of hb0 3
          have hb1 := hx.get HB1.out
          have q0 := cell_of hb1 0
          have q1 := cell_of hb1 1
          have hb2 := hx.get HB2.out
          have n0 := cell_of hb2 0
          have n1 := cell_of hb2 1
          have n2 := cell_of hb2 2
          have n3 := cell_of hb2 3
          simp at p0 p1 p2 p3 q0 q1 n0 n1 n2 n3
          clear hb0 hb1 hb2
          go_wp2_with fail
          clear p0 p1 p2 p3 q0 q1 n0 n1 n2 n3
          refine (cn.out _ _ _ HKR.out (by exact Nat.le_trans (List.length_filter_le _ _) (Nat.le_trans HL.out.1 (by decide)))).mono ?_
          rintro e w11 ⟨v11, rfl, ho11, hS⟩
          replace hx := hx.trans hS
          have H11 := Lib.hid ho11.row
          have HKR := Lib.hid (HKR.out.ext hS)
          have HLR := Lib.hid (HLR.out.ext hS)
          have H9 := Lib.hid (H9.out.ext hS)
          have H10 := Lib.hid (H10.out.ext hS)
          clear hS ho11
          have hb0 := hx.get HB0.out
          have p0 := cell_of hb0 0
          have p1 := cell_of hb0 1
          have p2 := cell_of hb0 2
          have p3 := cell_of hb0 3
          have hb1 := hx.get HB1.out
          have q0 := cell_of hb1 0
          have q1 := cell_of hb1 1
          have hb2 := hx.get HB2.out
          have n0 := cell_of hb2 0
          have n1 := cell_of hb2 1
          have n2 := cell_of hb2 2
          have n3 := cell_of hb2 3
          simp at p0 p1 p2 p3 q0 q1 n0 n1 n2 n3
          clear hb0 hb1 hb2
          go_wp2_with fail
          clear p0 p1 p2 p3 q0 q1 n0 n1 n2 n3
          refine (cs.out _ _ _ (HP.out.ext (hE.trans hx)) (Nat.le_trans HL.out.1 (by decide))).mono ?_
          rintro e w12 ⟨v12, u12, rfl, ho12, hq12, hS⟩
          replace hx := hx.trans hS
          have H12 := Lib.hid ho12.row
          have H13 := Lib.hid hq12.row
          have HKR := Lib.hid (HKR.out.ext hS)
          have HLR := Lib.hid (HLR.out.ext hS)
          have H9 := Lib.hid (H9.out.ext hS)
          have H10 := Lib.hid (H10.out.ext hS)
          have H11 := Lib.hid (H11.out.ext hS)
          clear hS ho12 hq12
          have hb0 := hx.get HB0.out
          have p0 := cell_of hb0 0
          have p1 := cell_of hb0 1
          have p2 := cell_of hb0 2
          have p3 := cell_of hb0 3
          have hb1 := hx.get HB1.out
          have q0 := cell_of hb1 0
          have q1 := cell_of hb1 1
          have hb2 := hx.get HB2.out
          have n0 := cell_of hb2 0
          have n1 := cell_of hb2 1
          have n2 := cell_of hb2 2
          have n3 := cell_of hb2 3
          simp at p0 p1 p2 p3 q0 q1 n0 n1 n2 n3
          clear hb0 hb1 hb2
          go_wp2_with fail
          clear p0 p1 p2 p3 q0 q1 n0 n1 n2 n3
          refine (own_any _ _ _ HKR.out (fle f HL.out.1)).mono ?_
          rintro e w13 ⟨v13, rfl, ho13, hS⟩
          have HO13 := Lib.hid ho13
          clear ho13
          go_wp2_with (at_builtin; refine wpList_append_pairs (B := w12.heap.size) (zs := zs.filter f) (ys := ys.filter f) rfl (.tmp 129) (.tmp 130) rfl rfl rfl HO13.out (HLR.out.ext hS) (fle2 f HL.out.1 HL.out.2) hS.size ?_)
          intro v14 w14 ho14 hg14
          have hA : Ext w12 w14 := pgrown_ext hS HO13.out hg14
          have HLL := Lib.hid (show PRow w14 v14 ((zs ++ ys).filter f) by rw [List.filter_append]; exact ho14.row)
          have HKR := Lib.hid (HKR.out.ext hA)
          have H9 := Lib.hid (H9.out.ext hA)
          have H10 := Lib.hid (show PRow w14 v10 (zs.filter f) by have := H10.out.ext hA; rwa [filter_again] at this)
          have H11 := Lib.hid (show PRow w14 v11 [] by have := H11.out.ext hA; rwa [filter_none] at this)
          have H12 := Lib.hid (H12.out.ext hA)
          have H13 := Lib.hid (H13.out.ext hA)
          have hx := hx.trans hA
          clear hS hg14 ho14 hA HO13 HLR
          go_wp2_with fail
          refine (samePairs04_any w14 _ _ _ H9.out HLL.out (by rw [List.filter_append, List.length_append]; exact Nat.le_trans (Nat.add_le_add (Nat.le_trans (List.length_filter_le _ _) HL.out.1) (Nat.le_trans (List.length_filter_le _ _) HL.out.2)) (by decide))).mono ?_
          rintro e w15 ⟨rfl, hS⟩
          have h145 := hS
          go_wp2_with fail
          refine (samePairs04_any w15 _ _ _ (H10.out.ext hS) (HKR.out.ext hS) (fle f HL.out.1)).mono ?_
          rintro e w16 ⟨rfl, hS2⟩
          have h146 := hS.trans hS2
          clear hS hS2 h145
          obtain ⟨n1, n2, rfl⟩ := prow_slice H11.out
          obtain ⟨n3, n4, rfl⟩ := prow_slice H12.out
          obtain ⟨n5, n6, rfl⟩ := prow_slice H13.out
          have HSUM := Lib.hid (filter_both f zs)
          rw [List.length_nil]
          generalize hc1 : (zs.filter f).length = c1 at *
          generalize hc2 : (zs.filter (fun z => !f z)).length = c2 at *
          have HC1 := Lib.hid hc1
          clear hc1 hc2
          go_wp2_with fail
          refine (samePairs04_any w16 _ _ _ (H12.out.ext h146) (HKR.out.ext h146) (fle f HL.out.1)).mono ?_
          rintro e w17 ⟨rfl, hS3⟩
          have hsum : wrap64 ((c1 : Int) + (c2 : Int)) = (zs.length : Int) := by have := HSUM.out; have := HL.out.1; unfold wrap64; omega
          have hx := hx.trans (h146.trans hS3)
          clear hS3 h146
          go_wp2_with fail
          refine (alive06_any _).mono ?_
          rintro e w18 ⟨rfl, hS⟩
          go_wp2
          go_ret
          exact Ret.mk ((hE.trans hx).trans hS)
        · clear p0 p1 p2 p3 hbb
          refine wpListIn_append_pairs (B := w6.heap.size) (zs := zs) (ys := ys) rfl (.tmp 80) (.tmp 81) rfl rfl rfl HO7.out (((HQ.out.ext (hE.trans hx)).ext hd).ext hS7) (by have := HL.out; omega) (hd.trans hS7).size hfn ?_
          intro v8 w8 ho8 hg8
          have h58 : Ext w6 w8 := hd.trans (pgrown_ext (w0 := w6.drew) hS7 HO7.out hg8)
          have HALL := Lib.hid ho8.row
          clear ho8 hg8
          simp only [Act.put, List.setIfInBounds_toArray, List.set_cons_zero, List.set_cons_succ]
          refine wpListIn_nil ?_
          refine onePost_any (by kernel_rfl) ?_
          have hbb := (hx.trans h58).get HB0.out
          have p0 := cell_of hbb 0
          have p1 := cell_of hbb 1
          have p2 := cell_of hbb 2
          have p3 := cell_of hbb 3
          simp at p0 p1 p2 p3
          refine wpAnyG_one (j := 0) (by kernel_rfl) rfl ?_
          gi_wp2_with fail
          gi_wp2_with fail
          refine onePost_any (by kernel_rfl) ?_
          clear p0 p1 p2 p3 hbb
          refine wpAnyG_one (j := 5) (by kernel_rfl) rfl ?_
          gi_wp2_with fail
          refine ⟨wide_room _, (callsIn_wide.2 (ck.out w8 _ _ HALL.out (by have := HL.out; simp; omega))).mono ?_⟩
          rintro e w9 ⟨v9, rfl, ho9, hS⟩
          have H9 := Lib.hid ho9.row
          have HKR := Lib.hid (HKR.out.ext (h58.trans hS))
          have HLR := Lib.hid (HLR.out.ext (h58.trans hS))
          have hx := hx.trans (h58.trans hS)
          clear hS ho9 h58
          gi_wp2_with fail
          refine onePost_any (by kernel_rfl) ?_
          refine batchG hfn (fuel := 0) [6, 7, 8, 9, 10] (by kernel_rfl) rfl ?_
          repeat (go_big_quiet_step ((fail)))
          refine wpQuiet_nil ?_
          refine wpAnyG_done (by kernel_rfl) ?_
          refine calmQ_normal ?_
          have hb0 := hx.get HB0.out
          have p0 := cell_of hb0 0
          have p1 := cell_of hb0 1
          have p2 := cell_of hb0 2
          have p3 := cell_of hb0 3
          have hb1 := hx.get HB1.out
          have q0 := cell_of hb1 0
          have q1 := cell_of hb1 1
          have hb2 := hx.get HB2.out
          have n0 := cell_of hb2 0
          have n1 := cell_of hb2 1
          have n2 := cell_of hb2 2
          have n3 := cell_of hb2 3
          simp at p0 p1 p2 p3 q0 q1 n0 n1 n2 n3
          clear hb0 hb1 hb2
          go_wp2_with fail
          clear p0 p1 p2 p3 q0 q1 n0 n1 n2 n3
          refine (ck.out _ _ _ HKR.out (by exact Nat.le_trans (List.length_filter_le _ _) (Nat.le_trans HL.out.1 (by decide)))).mono ?_
          rintro e w10 ⟨v10, rfl, ho10, hS⟩
          replace hx := hx.trans hS
          have H10 := Lib.hid ho10.row
          have HKR := Lib.hid (HKR.out.ext hS)
          have HLR := Lib.hid (HLR.out.ext hS)
          have H9 := Lib.hid (H9.out.ext hS)
          clear hS ho10
          have hb0 := hx.get HB0.out
          have p0 := cell_of hb0 0
          have p1 := cell_of hb0 1
          have p2 := cell_of hb0 2
          have p3 := cell_of hb0 3
          have hb1 := hx.get HB1.out
          have q0 := cell_of hb1 0
          have q1 := cell_of hb1 1
          have hb2 := hx.get HB2.out
          have n0 := cell_of hb2 0
          have n1 := cell_of hb2 1
          have n2 := cell_of hb2 2
          have n3 := cell_of hb2 3
          simp at p0 p1 p2 p3 q0 q1 n0 n1 n2 n3
          clear hb0 hb1 hb2
          go_wp2_with fail
          clear p0 p1 p2 p3 q0 q1 n0 n1 n2 n3
          refine (cn.out _ _ _ HKR.out (by exact Nat.le_trans (List.length_filter_le _ _) (Nat.le_trans HL.out.1 (by decide)))).mono ?_
          rintro e w11 ⟨v11, rfl, ho11, hS⟩
          replace hx := hx.trans hS
          have H11 := Lib.hid ho11.row
          have HKR := Lib.hid (HKR.out.ext hS)
          have HLR := Lib.hid (HLR.out.ext hS)
          have H9 := Lib.hid (H9.out.ext hS)
          have H10 := Lib.hid (H10.out.ext hS)
          clear hS ho11
          have hb0 := hx.get HB0.out
          have p0 := cell_of hb0 0
          have p1 := cell_of hb0 1
          have p2 := cell_of hb0 2
          have p3 := cell_of hb0 3
          have hb1 := hx.get HB1.out
          have q0 := cell_of hb1 0
          have q1 := cell_of hb1 1
          have hb2 := hx.get HB2.out
          have n0 := cell_of hb2 0
          have n1 := cell_of hb2 1
          have n2 := cell_of hb2 2
          have n3 := cell_of hb2 3
          simp at p0 p1 p2 p3 q0 q1 n0 n1 n2 n3
          clear hb0 hb1 hb2
          go_wp2_with fail
          clear p0 p1 p2 p3 q0 q1 n0 n1 n2 n3
          refine (cs.out _ _ _ (HP.out.ext (hE.trans hx)) (Nat.le_trans HL.out.1 (by decide))).mono ?_
          rintro e w12 ⟨v12, u12, rfl, ho12, hq12, hS⟩
          replace hx := hx.trans hS
          have H12 := Lib.hid ho12.row
          have H13 := Lib.hid hq12.row
          have HKR := Lib.hid (HKR.out.ext hS)
          have HLR := Lib.hid (HLR.out.ext hS)
          have H9 := Lib.hid (H9.out.ext hS)
          have H10 := Lib.hid (H10.out.ext hS)
          have H11 := Lib.hid (H11.out.ext hS)
          clear hS ho12 hq12
          have hb0 := hx.get HB0.out
          have p0 := cell_of hb0 0
          have p1 := cell_of hb0 1
          have p2 := cell_of hb0 2
          have p3 := cell_of hb0 3
          have hb1 := hx.get HB1.out
          have q0 := cell_of hb1 0
          have q1 := cell_of hb1 1
          have hb2 := hx.get HB2.out
          have n0 := cell_of hb2 0
          have n1 := cell_of hb2 1
          have n2 := cell_of hb2 2
          have n3 := cell_of hb2 3
          simp at p0 p1 p2 p3 q0 q1 n0 n1 n2 n3
          clear hb0 hb1 hb2
          go_wp2_with fail
          clear p0 p1 p2 p3 q0 q1 n0 n1 n2 n3
          refine (own_any _ _ _ HKR.out (fle f HL.out.1)).mono ?_
          rintro e w13 ⟨v13, rfl, ho13, hS⟩
          have HO13 := Lib.hid ho13
          clear ho13
          go_wp2_with (at_builtin; refine wpList_append_pairs (B := w12.heap.size) (zs := zs.filter f) (ys := ys.filter f) rfl (.tmp 129) (.tmp 130) rfl rfl rfl HO13.out (HLR.out.ext hS) (fle2 f HL.out.1 HL.out.2) hS.size ?_)
          intro v14 w14 ho14 hg14
          have hA : Ext w12 w14 := pgrown_ext hS HO13.out hg14
          have HLL := Lib.hid (show PRow w14 v14 ((zs ++ ys).filter f) by rw [List.filter_append]; exact ho14.row)
          have HKR := Lib.hid (HKR.out.ext hA)
          have H9 := Lib.hid (H9.out.ext hA)
          have H10 := Lib.hid (show PRow w14 v10 (zs.filter f) by have := H10.out.ext hA; rwa [filter_again] at this)
          have H11 := Lib.hid (show PRow w14 v11 [] by have := H11.out.ext hA; rwa [filter_none] at this)
          have H12 := Lib.hid (H12.out.ext hA)
          have H13 := Lib.hid (H13.out.ext hA)
          have hx := hx.trans hA
          clear hS hg14 ho14 hA HO13 HLR
          go_wp2_with fail
          refine (samePairs04_any w14 _ _ _ H9.out HLL.out (by rw [List.filter_append, List.length_append]; exact Nat.le_trans (Nat.add_le_add (Nat.le_trans (List.length_filter_le _ _) HL.out.1) (Nat.le_trans (List.length_filter_le _ _) HL.out.2)) (by decide))).mono ?_
          rintro e w15 ⟨rfl, hS⟩
          have h145 := hS
          go_wp2_with fail
          refine (samePairs04_any w15 _ _ _ (H10.out.ext hS) (HKR.out.ext hS) (fle f HL.out.1)).mono ?_
          rintro e w16 ⟨rfl, hS2⟩
          have h146 := hS.trans hS2
          clear hS hS2 h145
          obtain ⟨n1, n2, rfl⟩ := prow_slice H11.out
          obtain ⟨n3, n4, rfl⟩ := prow_slice H12.out
          obtain ⟨n5, n6, rfl⟩ := prow_slice H13.out
          have HSUM := Lib.hid (filter_both f zs)
          rw [List.length_nil]
          generalize hc1 : (zs.filter f).length = c1 at *
          generalize hc2 : (zs.filter (fun z => !f z)).length = c2 at *
          have HC1 := Lib.hid hc1
          clear hc1 hc2
          go_wp2_with fail
          refine (samePairs04_any w16 _ _ _ (H12.out.ext h146) (HKR.out.ext h146) (fle f HL.out.1)).mono ?_
          rintro e w17 ⟨rfl, hS3⟩
          have hsum : wrap64 ((c1 : Int) + (c2 : Int)) = (zs.length : Int) := by have := HSUM.out; have := HL.out.1; unfold wrap64; omega
          have hx := hx.trans (h146.trans hS3)
          clear hS3 h146
          go_wp2_with fail
          refine (alive06_any _).mono ?_
          rintro e w18 ⟨rfl, hS⟩
          go_wp2
          go_ret
          exact Ret.mk ((hE.trans hx).trans hS)
  · by_cases c1 : zs.length ≤ 200
    · have l1 : ¬ (200 : Int) < zs.length := by omega
      have l2 : (200 : Int) < ys.length := by omega
      clear hlen c1
      go_enter Try.func4, Try.ntmps4
      go_wp2_with fail
      refine (alive06_any _).mono ?_
      rintro e w2 ⟨rfl, hx⟩
      go_wp2
      go_ret
      exact Ret.mk ((((Ext.refl w).alloc _).alloc _).trans hx)
    · have l1 : (200 : Int) < zs.length := by omega
      clear hlen c1
      go_enter Try.func4, Try.ntmps4
      go_wp2_with fail
      refine (alive06_any _).mono ?_
      rintro e w2 ⟨rfl, hx⟩
      go_wp2
      go_ret
      exact Ret.mk ((((Ext.refl w).alloc _).alloc _).trans hx)
theorem siftParts_walk (kd : Nat) (a b : Int) (nt : Bool) (k v : Int) (p : Option Addr) (len cap : Nat) (zs : List (Int × Int)) (q : Option Addr) (len' cap' : Nat) (ys : List (Int × Int)) (w : World) (hk : kd < 256) (_ha : I64 a) (_hb : I64 b) (hp : PRow w (.slice p len cap) zs) (hq : PRow w (.slice q len' cap') ys) :
    Calls Try.prog 4 #[.agg #[.int .u8 kd, .int .i64 a, .int .i64 b, .bool nt], .agg #[.int .i64 k, .int .i64 v], .slice p len cap, .slice q len' cap'] w (Ret (.bool true) w) :=
  siftParts_body w kd a b nt k v _ _ zs ys hk hp hq
end Go.Proofs.Yteibbdieckephaa
