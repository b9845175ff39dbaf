/- rb.wrong, rb.first, Check, Part, May, Rank. joineryref16. -/
import Derived.Test.YtoiohjifjmejkaaGreatM7
import Derived.Test.YtoiohjifjmejkaaGreatM10
import Derived.Test.YtoiohjifjmejkaaGreatM15
namespace Go.Proofs.YtoiohjifjmejkaaGreat
open Go Go.RowKit Go.Shelf
attribute [local go_sem] Oper.semAt_some

set_option maxHeartbeats 1000000 in
/-- **rb.wrong(t) hands back what goes over what is wrong with t's nodes, each ahead of its sides.** -/
theorem rbWrong_stops (M : Nat → Prop) (n Bt : Nat) (T : Tr) (w : World) (hM : ∀ i, M i → i < w.heap.size) (hBt : Boxed w Bt 31 (.pointer T.ptr)) (hT : InH w T) (hto : TagsOk T) (ho : Off M T) :
    SeqStopsK Fence.wide n Tryz.prog 160 #[.pointer (some ⟨Bt, 0, none⟩)] (fun x : Tr => #[Value.int .i64 (rbOne x)]) (Keep M) (fun ys => ys = T.pre) (fun q => q <+: T.pre) T.pre.length w := by
  intro l J Jx W hW hJ hJx hY h0
  have hsz : w.heap.size ≤ W.heap.size := hW.size
  have hE : Ext w W := hW
  have hW2 : Ext W ((W.alloc (.cells #[.func (.yield l) #[] #[]] 200)).alloc (.cells #[.func (.func 161) #[] #[.pointer (some ⟨W.heap.size, 0, none⟩), .pointer (some ⟨W.heap.size + 1, 0, none⟩)]] 104)) := ((Ext.refl W).alloc _).alloc _
  have hon := (rbOn_in M (fun _ => True) l T.pre.length W.heap.size (W.heap.size + 1) J Jx (fun h => by have := hM _ h; omega) (fun h => by have := hM _ h; omega)
    (fun m pre x W _ hj hl => YieldAt.any m (hY pre x W hj hl))
    (fun pre W W' h hE => ext_of_abides hJ h hE) T (n - 1) [] _ ((hT.ext hE).ext hW2) hto ho (fun _ _ => trivial) (ext_of_abides hJ h0 hW2) (by simp)
    ((Boxed.new W _ _).alloc _) (by have := Boxed.new (W.alloc (.cells #[.func (.yield l) #[] #[]] 200)) 104 (.func (.func 161) #[] #[.pointer (some ⟨W.heap.size, 0, none⟩), .pointer (some ⟨W.heap.size + 1, 0, none⟩)]); simpa using this))
  have Hon := Lib.hid hon
  clear hon hY
  have hcb := (show Boxed W Bt _ _ from hE.get hBt).cell
  have hlb := (show Boxed W Bt _ _ from hE.get hBt).lt
  have hfn : ∀ f, Fence.wide.fn f := fun _ => trivial
  refine callsIn_of_wp Tryz.func160 rfl trivial ?_ rfl
  simp only [Tryz.ntmps160, List.size_toArray, List.length_cons, List.length_nil, Nat.reduceAdd, Nat.reduceSub, Array.replicate_succ, Array.replicate_zero, List.push_toArray, List.append_toArray, List.nil_append, List.cons_append]
  gi_wp2_with fail
  refine ⟨wide_room _, Hon.out.mono ?_⟩
  rintro e W1 (⟨rfl, hJ1, -⟩ | ⟨rfl, q, hq, hJ1⟩)
  · gi_wp2
    go_end0
    exact ⟨⟨_, rfl⟩, .inl ⟨_, rfl, by simpa using hJ1⟩⟩
  · gi_wp2
    go_end0
    exact ⟨⟨_, rfl⟩, .inr ⟨q, hq, by simpa using hJ1⟩⟩
theorem rbWrong_any (w : World) (p : Option Addr) : Calls Tryz.prog 144 #[.pointer p] w fun e w' => e = .returned (.func (.func 160) #[] #[.pointer (some ⟨w.heap.size, 0, none⟩)]) ∧ w' = w.alloc (.cells #[.pointer p] 31) := by
  go_enter Tryz.func144, Tryz.ntmps144
  go_wp2
  go_ret
  exact ⟨rfl, rfl⟩
theorem firstOf_good {one : Tr → Int} : ∀ {l : List Tr}, (∀ t ∈ l, one t = 0) → firstOf one l = (l.length, 0)
  | [], _ => rfl
  | t :: l, h => by
    rw [firstOf_cons, if_pos (h t (List.mem_cons_self ..)), firstOf_good (l := l) (fun x hx => h x (List.mem_cons_of_mem _ hx))]
    rfl
theorem firstOf_bad {one : Tr → Int} {x : Tr} {l r : List Tr} (h : ∀ t ∈ l, one t = 0) (hx : one x ≠ 0) : firstOf one (l ++ x :: r) = (l.length, one x) := by
  rw [firstOf_append, firstOf_good h, firstOf_cons, if_neg hx]
  simp
theorem two_end0 {w W0 W : World} {N D : Nat} {t u : TypeId} {a b : Value} (hN : w.heap.size = N) (hE : Ext w W0) (hb : Below N W0 W) (hD : W0.heap.size ≤ D) (hK : W.heap[D]? = some (.deferred (some []))) (h1 : Boxed W N t a) (h2 : Boxed W (N + 1) u b) (hs : N + 2 ≤ W0.heap.size) :
    (W.putObj D (.deferred none)).cell? ⟨N, 0, none⟩ = some a ∧ (W.putObj D (.deferred none)).cell? ⟨N + 1, 0, none⟩ = some b ∧ Ext w (W.putObj D (.deferred none)) := by
  refine ⟨(Boxed.kept h1 (grownBy_putObj' _ D _) (by simp; omega)).cell, (Boxed.kept h2 (grownBy_putObj' _ D _) (by simp; omega)).cell, ?_⟩
  have hB : Below N w W0 := by have := hE; unfold Ext at this; rwa [hN] at this
  have := (hB.trans hb).trans (belowK_b (w := W0) (n₀ := N) (by omega) _ D _ (.deferred none) hD hK rfl rfl)
  unfold Ext
  rwa [hN]
/-- the world ahead of first's loop. -/
def fstW (w : World) (p : Option Addr) : World := ((w.alloc (.cells #[.int .i64 0] 3)).alloc (.cells #[.int .i64 0] 33)).alloc (.cells #[.pointer p] 31)
theorem fstW_all (w : World) (p : Option Addr) : Ext w (fstW w p) ∧ (fstW w p).heap.size = w.heap.size + 3 ∧ Boxed (fstW w p) w.heap.size 3 (.int .i64 0) ∧ Boxed (fstW w p) (w.heap.size + 1) 33 (.int .i64 0) ∧
    Boxed (fstW w p) (w.heap.size + 1 + 1) 31 (.pointer p) := by
  refine ⟨(((Ext.refl w).alloc _).alloc _).alloc _, by simp [fstW], ?_, ?_, ?_⟩ <;> unfold fstW <;> (try unfold Boxed) <;> (repeat (first | exact alloc_at _ _ _ (by simp) | rw [alloc_lt _ _ _ (by simp <;> omega)]))
set_option maxRecDepth 100000 in
set_option maxHeartbeats 2000000 in
theorem rbFirst_in (n : Nat) (hn : Hid (1 ≤ n)) (T : Tr) (w : World) (hT : InH w T) (hto : TagsOk T) :
    CallsIn Fence.wide n Tryz.prog 116 #[.pointer T.ptr] w (Ret (.tuple #[.int .i64 (wrap64 (firstOf rbOne T.pre).1), .int .i64 (firstOf rbOne T.pre).2]) w) := by
  have hfn : ∀ f, Fence.wide.fn f := fun _ => trivial
  refine callsIn_of_wp_marks Tryz.func116 rfl trivial ?_ rfl
  simp only [Tryz.ntmps116, List.size_toArray, List.length_cons, List.length_nil, Nat.reduceAdd, Nat.reduceSub, Array.replicate_succ, Array.replicate_zero, List.push_toArray, List.append_toArray, List.nil_append, List.cons_append]
  gi_wp2_with fail
  refine ⟨wide_room _, (callsIn_wide.2 (rbWrong_any _ _)).mono ?_⟩
  rintro e w2 ⟨rfl, rfl⟩
  gi_wp2_with fail
  change Code.wpIn _ _ _ _ _ _ (fstW w T.ptr)
  obtain ⟨hE, hsz, hat, he, htb⟩ := fstW_all w T.ptr
  generalize fstW w T.ptr = W0 at *
  generalize hN : w.heap.size = N at *
  have HN := Lib.hid hN
  clear hN
  refine wpIn_rangeFunc_ownG rfl (n := n) (w := W0) hn.out (gf := 160) (lb := #[.pointer (some ⟨N + 1 + 1, 0, none⟩)]) rfl trivial (enters_of Tryz.func160 (by kernel_rfl) rfl)
    (rbWrong_stops (fun i => i = N ∨ i = N + 1) (n - 1) _ T W0 (by omega) htb (hT.ext hE) hto (InH.off (fun i h => by rw [HN.out]; omega) hT))
    (fun h k => Keep.trans h k) (fun W l o o' _ h ho _ => Keep.putObj W l o o' h ho) (RowKit.Below.refl _ _) (fun _ => rfl)
    (fun pre W => Boxed W N 3 (.int .i64 (wrap64 pre.length)) ∧ Boxed W (N + 1) 33 (.int .i64 0) ∧ (∀ y ∈ pre, rbOne y = 0) ∧ Keep (fun i => i = N ∨ i = N + 1) W0 W ∧ Below N W0 W)
    (fun c pre W => c = .ret ∧ ∃ q x, pre = q ++ [x] ∧ (∀ y ∈ q, rbOne y = 0) ∧ rbOne x ≠ 0 ∧ Boxed W N 3 (.int .i64 (wrap64 q.length)) ∧ Boxed W (N + 1) 33 (.int .i64 (rbOne x)) ∧ Below N W0 W)
    ?own ?ownx ⟨(by simpa [wrap64] using hat), he, by simp, Keep.refl _ _, Below.refl _ _⟩ (fun x => { tmps := #[Value.pointer T.ptr, undef, Value.pointer (some ⟨N, 0, none⟩), Value.pointer (some ⟨N + 1, 0, none⟩), Value.int .i64 (rbOne x), Value.pointer T.ptr, Value.func (Fn.func 160) #[] #[Value.pointer (some ⟨N + 1 + 1, 0, none⟩)], Value.int .i64 (rbOne x), undef, undef, undef, undef, undef, undef, undef], defers := [] }) ?assign ?body ?done ?stop
  case own =>
    rintro s A A' row ⟨h1, h2, h3, h4, h5⟩ hg hr
    exact ⟨boxed_grown h1 hg hr, boxed_grown h2 hg hr, h3, keep_grown h4 hg hr, below_grown (by omega) (by omega) h5 hg hr⟩
  case ownx =>
    rintro c s A A' row ⟨h0, q, x, h1, h2, hx, h3, h4, h5⟩ hg hr
    exact ⟨h0, q, x, h1, h2, hx, boxed_grown h3 hg hr, boxed_grown h4 hg hr, below_grown (by omega) (by omega) h5 hg hr⟩
  case assign =>
    intro l x W K hK
    gi_wp2
    exact hK
  case body =>
    rintro l pre x W ⟨hat, he, hg, hk, hb⟩ _
    have hg' := Lib.hid hg
    have hat' := hat
    have he' := he
    have hca := hat.cell
    have hfa := hat.frozen
    have hce := he.cell
    have hfe := he.frozen
    clear hg hsz hat he htb
    by_cases e1 : rbOne x = 0
    · have HE1 := Lib.hid e1
      have e2 : (rbOne x != 0) = false := by simpa using e1
      clear e1
      gi_wp2
      have hbx := hat'.set (.int .i64 (wrap64 (wrap64 pre.length + 1)))
      have hBf := hb.setCell (p := ⟨N, 0, none⟩) (Nat.le_refl N) (.int .i64 (wrap64 (wrap64 pre.length + 1)))
      rw [wrap64_succ] at hbx hBf ⊢
      refine ⟨keepsFrom_set _ _ _, Keep.setCell _ _ _ (.inl rfl), ?_, he'.other (by omega) _, ?_, hk.trans (Keep.setCell _ _ _ (.inl rfl)), hBf⟩
      · rw [List.length_append]; exact hbx
      · intro y hy
        rcases List.mem_append.1 hy with hy | hy
        · exact hg'.out y hy
        · obtain rfl : y = x := by simpa using hy
          exact HE1.out
    · have HE1 := Lib.hid e1
      have e2 : (rbOne x != 0) = true := by simpa using e1
      clear e1
      gi_wp2
      have b1 : Boxed ((W.setCell ⟨N, 0, none⟩ (.int .i64 (wrap64 pre.length))).setCell ⟨N + 1, 0, none⟩ (.int .i64 (rbOne x))) N 3 (.int .i64 (wrap64 pre.length)) := (hat'.set (.int .i64 (wrap64 pre.length))).other (by omega) _
      have b2 : Boxed ((W.setCell ⟨N, 0, none⟩ (.int .i64 (wrap64 pre.length))).setCell ⟨N + 1, 0, none⟩ (.int .i64 (rbOne x))) (N + 1) 33 (.int .i64 (rbOne x)) := (he'.other (by omega) (.int .i64 (wrap64 pre.length))).set (.int .i64 (rbOne x))
      have hBf := (hb.setCell (p := ⟨N, 0, none⟩) (Nat.le_refl N) (.int .i64 (wrap64 pre.length))).setCell (p := ⟨N + 1, 0, none⟩) (Nat.le_succ N) (.int .i64 (rbOne x))
      exact ⟨(keepsFrom_set _ _ _).trans (keepsFrom_set _ _ _), rfl, pre, x, rfl, hg'.out, HE1.out, b1, b2, hBf⟩
  case done =>
    rintro D ys W hD hys ⟨hat, he, hg, hk, hb⟩ hK
    clear htb
    have hca := hat.cell
    have hfa := hat.frozen
    have hce := he.cell
    have hfe := he.frozen
    gi_wp2
    have h1 : Boxed ((W.setCell ⟨N, 0, none⟩ (.int .i64 (wrap64 ys.length))).setCell ⟨N + 1, 0, none⟩ (.int .i64 0)) N 3 (.int .i64 (wrap64 ys.length)) := (hat.set _).other (by omega) _
    have h2 : Boxed ((W.setCell ⟨N, 0, none⟩ (.int .i64 (wrap64 ys.length))).setCell ⟨N + 1, 0, none⟩ (.int .i64 0)) (N + 1) 33 (.int .i64 0) := (he.other (by omega) _).set _
    have hk : ((W.setCell ⟨N, 0, none⟩ (.int .i64 (wrap64 ys.length))).setCell ⟨N + 1, 0, none⟩ (.int .i64 0)).heap[D]? = some (.deferred (some [])) := ((KeepsOthers.setCell _ _ _).trans (KeepsOthers.setCell _ _ _)).same D _ hK rfl
    obtain ⟨f2, f3, f4⟩ := two_end0 HN.out hE ((hb.setCell (p := ⟨N, 0, none⟩) (Nat.le_refl N) (.int .i64 (wrap64 ys.length))).setCell (p := ⟨N + 1, 0, none⟩) (Nat.le_succ N) (.int .i64 0)) hD hk h1 h2 (by omega)
    have e1 : firstOf rbOne T.pre = (ys.length, 0) := by rw [← hys]; exact firstOf_good hg
    subst hys
    rw [e1]
    refine ⟨by simp, .inl ⟨_, _, rfl, run_takeDeferred hk, ?_⟩⟩
    exact ⟨_, results_cells2 rfl _ _ rfl rfl (fun _ => by kernel_rfl) (fun _ => by kernel_rfl) f2 f3, rfl, f4⟩
  case stop =>
    rintro D c q W hD hq ⟨rfl, q', x, hqx, hg, hx, hat, he, hb⟩ hK
    clear htb
    obtain ⟨r, hr⟩ := hq
    have hca := hat.cell
    have hfa := hat.frozen
    have hce := he.cell
    have hfe := he.frozen
    gi_wp2
    obtain ⟨f2, f3, f4⟩ := two_end0 HN.out hE hb hD hK hat he (by omega)
    have e1 : firstOf rbOne T.pre = (q'.length, rbOne x) := by
      rw [← hr, hqx, List.append_assoc]
      exact firstOf_bad hg hx
    rw [e1]
    refine ⟨by simp, .inl ⟨_, _, rfl, run_takeDeferred hK, ?_⟩⟩
    exact ⟨_, results_cells2 rfl _ _ rfl rfl (fun _ => by kernel_rfl) (fun _ => by kernel_rfl) f2 f3, rfl, f4⟩
theorem rbFirst_any (w : World) (T : Tr) (hT : InH w T) (hto : TagsOk T) : Calls Tryz.prog 116 #[.pointer T.ptr] w (Ret (.tuple #[.int .i64 (wrap64 (firstOf rbOne T.pre).1), .int .i64 (firstOf rbOne T.pre).2]) w) :=
  callsIn_wide.1 (rbFirst_in 9 (Lib.hid (by omega)) T w hT hto)
/-- is it a part? may it be? -/
def rbPart (T : Tr) : Bool := mayOf rbOne T
def rbMay (T : Tr) : Bool := rbPart T && !rbRed T
set_option maxHeartbeats 400000 in
theorem rbPart_any (w : World) (T : Tr) (hT : InH w T) (hto : TagsOk T) : Calls Tryz.prog 77 #[.pointer T.ptr] w (Ret (.bool (rbPart T)) w) := by
  have H := Lib.hid (rbFirst_any w T hT hto)
  clear hto
  go_enter Tryz.func77, Tryz.ntmps77
  go_wp2_with fail
  refine (H.out).mono ?_
  rintro e w1 ⟨rfl, hS⟩
  go_wp2
  go_ret
  exact ⟨rfl, hS⟩
/-- what rb.Check says. -/
def rbChk (T : Tr) : Nat × Int := if (firstOf rbOne T.pre).2 = 0 ∧ rbRed T = true then (0, 8) else firstOf rbOne T.pre
set_option maxHeartbeats 1000000 in
theorem rbCheck_any (w : World) (T : Tr) (hT : InH w T) (hto : TagsOk T) (hc : T.pre.length ≤ 100000) : Calls Tryz.prog 76 #[.pointer T.ptr] w (Ret (.tuple #[.int .i64 (rbChk T).1, .int .i64 (rbChk T).2]) w) := by
  have H := Lib.hid (rbFirst_any w T hT hto)
  have HR := Lib.hid (fun W h => rbRed_any W T h hto)
  have hle := Nat.le_trans (firstOf_le (one := rbOne) T.pre) hc
  rw [show wrap64 ((firstOf rbOne T.pre).1 : Int) = ((firstOf rbOne T.pre).1 : Int) by unfold wrap64; omega] at H
  have HC := Lib.hid (show rbChk T = if (firstOf rbOne T.pre).2 = 0 ∧ rbRed T = true then (0, 8) else firstOf rbOne T.pre from rfl)
  have hx := Ext.refl w
  clear hto hle hc
  obtain ⟨C, eC⟩ : ∃ C, C = rbChk T := ⟨_, rfl⟩
  rw [← eC] at HC ⊢
  clear eC
  generalize firstOf rbOne T.pre = F at *
  obtain ⟨fn, fe⟩ := F
  simp only at H HC
  by_cases c0 : fe = 0
  · subst c0
    cases hr : rbRed T
    all_goals
      rw [hr] at HR HC
      clear hr
      go_enter Tryz.func76, Tryz.ntmps76
      go_wp2_with fail
      refine (H.out).mono ?_
      rintro e w1 ⟨rfl, hS⟩
      replace hx := hx.trans hS
      replace hT := hT.ext hS
      clear hS
      go_wp2_with fail
      refine (HR.out _ hT).mono ?_
      rintro e w2 ⟨rfl, hS⟩
      replace hx := hx.trans hS
      clear hS
      go_wp2
      go_ret2
      exact ⟨ret_two (by rw [HC.out]; simp) (by rw [HC.out]; simp), hx⟩
  · have HC0 := Lib.hid c0
    have c1 := beq_eq_false_iff_ne.2 c0
    clear c0
    go_enter Tryz.func76, Tryz.ntmps76
    go_wp2_with fail
    refine (H.out).mono ?_
    rintro e w1 ⟨rfl, hS⟩
    replace hx := hx.trans hS
    replace hT := hT.ext hS
    clear hS
    go_wp2
    go_ret2
    exact ⟨ret_two (by rw [HC.out, if_neg (fun h => HC0.out h.1)]) (by rw [HC.out, if_neg (fun h => HC0.out h.1)]), hx⟩
end Go.Proofs.YtoiohjifjmejkaaGreat
namespace Go.Proofs.YtoiohjifjmejkaaGreat
open Go Go.RowKit

set_option maxHeartbeats 400000 in
theorem high16_any (w : World) (p : Value) (t : BT) (T : Tr) (hf : t.fits T) (ho : TagsOk T) (hb : Beads w p t.enc) : Calls Tryz.prog 151 #[p] w (Ret (.int .u64 (hi T)) w) := by
  have H := Lib.hid (tag14_any w p t hb)
  rw [BT.fits_tag hf] at H
  have h0 := (tag_ok ho).1
  have HD := Lib.hid (hi_div ho)
  clear ho hf hb
  go_enter Tryz.func151, Tryz.ntmps151
  go_wp2_with fail
  refine (H.out).mono ?_
  rintro e w1 ⟨rfl, hS⟩
  go_wp2
  go_ret
  exact ⟨ret_int HD.out, hS⟩
set_option maxHeartbeats 400000 in
theorem red16_any (w : World) (p : Value) (t : BT) (T : Tr) (hf : t.fits T) (ho : TagsOk T) (hb : Beads w p t.enc) : Calls Tryz.prog 152 #[p] w (Ret (.bool (rbRed T)) w) := by
  have H := Lib.hid (tag14_any w p t hb)
  rw [BT.fits_tag hf] at H
  have h0 := (tag_ok ho).1
  have HD := Lib.hid (show rbRed T = (T.tag % 2 == 1) from rfl)
  clear ho hf hb
  go_enter Tryz.func152, Tryz.ntmps152
  go_wp2_with fail
  refine (H.out).mono ?_
  rintro e w1 ⟨rfl, hS⟩
  go_wp2
  go_ret
  exact ⟨ret_bool (by rw [HD.out]), hS⟩
def oneB (b1 b2 b3 b4 b5 b6 b7 : Bool) : Int := if (b1 || (b2 && b3)) then 140 else if (b4 || (b5 && (b6 || b7))) then 8 else 0
theorem one_eq (T : Tr) (ho : TagsOk T) (b1 b2 b3 b4 b5 b6 b7 : Bool) (h1 : (T.tag == 0) = b1) (h2 : (T.tag != IntKind.u64.wrap (IntKind.u64.wrap (2 * hi T.left) + 1)) = b2) (h3 : (T.tag != IntKind.u64.wrap (IntKind.u64.wrap (2 * hi T.left) + 2)) = b3)
    (h4 : (hi T.right != hi T.left) = b4) (h5 : (T.tag % 2 == 1) = b5) (h6 : rbRed T.left = b6) (h7 : rbRed T.right = b7) : rbOne T = oneB b1 b2 b3 b4 b5 b6 b7 := by
  have q0 := tag_ok ho
  have q1 := tag_ok (tags_left ho)
  have e2 : (T.tag != IntKind.u64.wrap (IntKind.u64.wrap (2 * hi T.left) + 1)) = !(col T == 1 && hi T == hi T.left) := by
    rw [Bool.eq_iff_iff]
    simp only [bne_iff_ne, Bool.not_eq_true', Bool.and_eq_false_iff, beq_eq_false_iff_ne, u64_mod, col, hi]
    omega
  have e3 : IntKind.u64.wrap (IntKind.u64.wrap (2 * hi T.left) + 2) = rbTag T.left false := by
    unfold rbTag; simp only [u64_mod]; simp
  have e4 : (hi T.right != hi T.left) = (hi T.left != hi T.right) := by
    rw [Bool.eq_iff_iff]; simp only [bne_iff_ne]; exact ⟨Ne.symm, Ne.symm⟩
  rw [e2] at h2
  rw [e3] at h3
  rw [e4] at h4
  unfold rbOne rbBadTag rbBadTree oneB
  rw [h1, h2, h3, h4]
  rw [show (col T == 1) = b5 from h5, show (col T.left == 1) = b6 from h6, show (col T.right == 1) = b7 from h7]
set_option maxHeartbeats 8000000 in
theorem one16_any (w : World) (p : Value) (k v s n g : Int) (l r : BT) (T : Tr) (hf : (BT.node k v s n g l r).fits T) (ho : TagsOk T) (hb : Beads w p (BT.node k v s n g l r).enc) (hl : (BT.node k v s n g l r).enc.length ≤ 2000) :
    Calls Tryz.prog 122 #[p] w (Ret (.int .i64 (rbOne T)) w) := by
  have HP := Lib.hid (parts_any w p k v s n g l r hb hl)
  obtain ⟨hfl, hfr, hg, -, -, -⟩ := BT.fits_left hf
  obtain ⟨X, eX⟩ : ∃ X, X = rbOne T := ⟨_, rfl⟩
  rw [← eX]
  have HX := Lib.hid eX
  have HEQ := Lib.hid (one_eq T ho)
  have HF := Lib.hid (And.intro hfl (And.intro hfr ho))
  have h0 := (tag_ok ho).1
  rw [← hg] at HEQ h0
  clear hf hg hb hl eX hfl hfr ho
  go_enter Tryz.func122, Tryz.ntmps122
  go_wp2_with fail
  refine (HP.out).mono ?_
  rintro e w1 ⟨v1, v2, rfl, hv1, hv2, hE⟩
  have hE1 := (Ext.refl w1).alloc (.cells #[.int .i64 k, .int .i64 v, .int .i64 s, .int .i64 n, .int .u64 g, .bool (!l.isNil), .bool (!r.isNil)] 68)
  have hc4 := cell_of (alloc_at w1 (.cells #[.int .i64 k, .int .i64 v, .int .i64 s, .int .i64 n, .int .u64 g, .bool (!l.isNil), .bool (!r.isNil)] 68) _ rfl) 4
  simp only [List.getElem?_toArray, List.getElem?_cons_succ, List.getElem?_cons_zero] at hc4
  go_wp2_with fail
  generalize w1.alloc (.cells #[.int .i64 k, .int .i64 v, .int .i64 s, .int .i64 n, .int .u64 g, .bool (!l.isNil), .bool (!r.isNil)] 68) = w2 at *
  have HHL := Lib.hid (fun W (h : Ext w2 W) => high16_any W v1 l T.left HF.out.1 (tags_left HF.out.2.2) ((hv1.ext hE1).ext h))
  have HHR := Lib.hid (fun W (h : Ext w2 W) => high16_any W v2 r T.right HF.out.2.1 (tags_right HF.out.2.2) ((hv2.ext hE1).ext h))
  have HRL := Lib.hid (fun W (h : Ext w2 W) => red16_any W v1 l T.left HF.out.1 (tags_left HF.out.2.2) ((hv1.ext hE1).ext h))
  have HRR := Lib.hid (fun W (h : Ext w2 W) => red16_any W v2 r T.right HF.out.2.1 (tags_right HF.out.2.2) ((hv2.ext hE1).ext h))
  have h02 := Lib.hid (hE.trans hE1)
  have HC4 := Lib.hid hc4
  clear hv1 hv2 hE hE1 hc4
  refine (HHL.out w2 (Ext.refl _)).mono ?_
  rintro e w3 ⟨rfl, hx⟩
  have hc4 := cell_keep hx HC4.out
  cases b1 : (g == 0) with
  | true =>
    have HY := Lib.hid (HEQ.out _ _ _ _ _ _ _ b1 rfl rfl rfl rfl rfl rfl)
    go_wp2
    go_ret
    exact ⟨ret_int (by rw [HX.out, HY.out]; rfl), h02.out.trans hx⟩
  | false =>
    cases b2 : (g != IntKind.u64.wrap (IntKind.u64.wrap (2 * hi T.left) + 1)) with
    | true =>
      cases b3 : (g != IntKind.u64.wrap (IntKind.u64.wrap (2 * hi T.left) + 2)) with
      | true =>
        have HY := Lib.hid (HEQ.out _ _ _ _ _ _ _ b1 b2 b3 rfl rfl rfl rfl)
        go_wp2
        go_ret
        exact ⟨ret_int (by rw [HX.out, HY.out]; rfl), h02.out.trans hx⟩
      | false =>
        have HE3 := Lib.hid (fun b4 b5 b6 b7 h4 h5 h6 h7 => HEQ.out _ _ _ b4 b5 b6 b7 b1 b2 b3 h4 h5 h6 h7)
        go_wp2_with fail
        refine (HHR.out w3 hx).mono ?_
        rintro e w4 ⟨rfl, hS⟩
        replace hx := hx.trans hS
        clear hS hc4
        have hc4 := cell_keep hx HC4.out
        cases b4 : (hi T.right != hi T.left) with
        | true =>
          have HY := Lib.hid (HE3.out _ _ _ _ b4 rfl rfl rfl)
          go_wp2
          go_ret
          exact ⟨ret_int (by rw [HX.out, HY.out]; rfl), h02.out.trans hx⟩
        | false =>
          cases b5 : (g % 2 == 1) with
          | false =>
            have HY := Lib.hid (HE3.out _ _ _ _ b4 b5 rfl rfl)
            go_wp2
            go_ret
            exact ⟨ret_int (by rw [HX.out, HY.out]; rfl), h02.out.trans hx⟩
          | true =>
            go_wp2_with fail
            refine (HRL.out w4 hx).mono ?_
            cases b6 : rbRed T.left with
            | true =>
              have HY := Lib.hid (HE3.out _ _ _ _ b4 b5 b6 rfl)
              rintro e w5 ⟨rfl, hS⟩
              go_wp2
              go_ret
              exact ⟨ret_int (by rw [HX.out, HY.out]; rfl), h02.out.trans (hx.trans hS)⟩
            | false =>
              rintro e w5 ⟨rfl, hS⟩
              replace hx := hx.trans hS
              clear hS
              go_wp2_with fail
              refine (HRR.out w5 hx).mono ?_
              cases b7 : rbRed T.right
              all_goals
                have HY := Lib.hid (HE3.out _ _ _ _ b4 b5 b6 b7)
                rintro e w6 ⟨rfl, hS⟩
                go_wp2
                go_ret
                exact ⟨ret_int (by rw [HX.out, HY.out]; rfl), h02.out.trans (hx.trans hS)⟩
    | false =>
      have HE3 := Lib.hid (fun b4 b5 b6 b7 h4 h5 h6 h7 => HEQ.out _ _ _ b4 b5 b6 b7 b1 b2 rfl h4 h5 h6 h7)
      go_wp2_with fail
      refine (HHR.out w3 hx).mono ?_
      rintro e w4 ⟨rfl, hS⟩
      replace hx := hx.trans hS
      clear hS hc4
      have hc4 := cell_keep hx HC4.out
      cases b4 : (hi T.right != hi T.left) with
      | true =>
        have HY := Lib.hid (HE3.out _ _ _ _ b4 rfl rfl rfl)
        go_wp2
        go_ret
        exact ⟨ret_int (by rw [HX.out, HY.out]; rfl), h02.out.trans hx⟩
      | false =>
        cases b5 : (g % 2 == 1) with
        | false =>
          have HY := Lib.hid (HE3.out _ _ _ _ b4 b5 rfl rfl)
          go_wp2
          go_ret
          exact ⟨ret_int (by rw [HX.out, HY.out]; rfl), h02.out.trans hx⟩
        | true =>
          go_wp2_with fail
          refine (HRL.out w4 hx).mono ?_
          cases b6 : rbRed T.left with
          | true =>
            have HY := Lib.hid (HE3.out _ _ _ _ b4 b5 b6 rfl)
            rintro e w5 ⟨rfl, hS⟩
            go_wp2
            go_ret
            exact ⟨ret_int (by rw [HX.out, HY.out]; rfl), h02.out.trans (hx.trans hS)⟩
          | false =>
            rintro e w5 ⟨rfl, hS⟩
            replace hx := hx.trans hS
            clear hS
            go_wp2_with fail
            refine (HRR.out w5 hx).mono ?_
            cases b7 : rbRed T.right
            all_goals
              have HY := Lib.hid (HE3.out _ _ _ _ b4 b5 b6 b7)
              rintro e w6 ⟨rfl, hS⟩
              go_wp2
              go_ret
              exact ⟨ret_int (by rw [HX.out, HY.out]; rfl), h02.out.trans (hx.trans hS)⟩
end Go.Proofs.YtoiohjifjmejkaaGreat
