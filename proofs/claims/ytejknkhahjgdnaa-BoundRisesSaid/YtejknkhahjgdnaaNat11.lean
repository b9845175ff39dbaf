/- nat.Fib. -/
import Derived.Test.YtejknkhahjgdnaaNat10
namespace Go.Proofs.Ytejknkhahjgdnaa
open Go Go.RowKit Go.Shelf
attribute [local go_sem] Oper.semAt_some

def FibE (i : Int) : Int := if 0 ≤ i ∧ i ≤ 200 then 0 else 2
def FibV (i : Int) : Nat := if 0 ≤ i ∧ i ≤ 200 then fibN i.toNat else 0
def Fibs (i : Int) (w : World) (r : Ending) (w' : World) : Prop := ∃ v, r = .returned (.tuple #[v, .int .i64 (FibE i)]) ∧ NumIs w' v (FibV i) ∧ Ext w w'
theorem results_cell_slot {fn : Func} {t u : Tmp} {A : TypeId} (h : fn.results = #[.cell t A, .tmp u]) (tmps : Array Value) (w : World) {a b : Value} {p : Addr} (ht : tmps.getD t undef = .pointer (some p)) (hu : tmps.getD u undef = b)
    (hA : ∀ w : World, (isAgg A).run Try.prog w = .ok false w) (hp : w.cell? p = some a) :
    (results fn tmps).run Try.prog w = .ok (.tuple #[a, b]) w := by
  simp only [Array.getD_eq_getD_getElem?] at ht hu
  simp [results, h, ht, hu, loadVar, hA, asAddr, hp]
theorem below_putN {N : Nat} {a W : World} (h : Below N a W) (hs : N ≤ W.heap.size) {l : Nat} (hl : N ≤ l) (o : Obj) : Below N a (W.putObj l o) :=
  h.grown (grownBy_putObj' W l o) hs (fun k e => by cases e; exact hl)
def fibW (w : World) (i : Int) : World := (w.alloc (.cells #[.int .i64 i] 3)).alloc (.cells #[.slice none 0 0] 23)
theorem fibW_all (w : World) (i : Int) : Ext w (fibW w i) ∧ (fibW w i).heap.size = w.heap.size + 2 ∧ Boxed (fibW w i) w.heap.size 3 (.int .i64 i) ∧ Boxed (fibW w i) (w.heap.size + 1) 23 (.slice none 0 0) := by
  refine ⟨((Ext.refl w).alloc _).alloc _, by simp [fibW], ?_, ?_⟩ <;> unfold fibW <;> (try unfold Boxed) <;> (repeat (first | exact alloc_at _ _ _ (by simp) | rw [alloc_lt _ _ _ (by simp <;> omega)]))
set_option maxRecDepth 100000 in
set_option maxHeartbeats 2000000 in
theorem natFib_in (n : Nat) (hn : Hid (1 ≤ n)) (w : World) (i : Int) : CallsIn Fence.wide n Try.prog 56 #[.int .i64 i] w (Fibs i w) := by
  have hfn : ∀ f, Fence.wide.fn f := fun _ => trivial
  by_cases hi : 0 ≤ i ∧ i ≤ 200
  · have HE := Lib.hid (show FibE i = 0 ∧ FibV i = fibN i.toNat by unfold FibE FibV; rw [if_pos hi, if_pos hi]; exact ⟨rfl, rfl⟩)
    obtain ⟨hi0, hi1⟩ := hi
    obtain ⟨N, rfl⟩ := Int.eq_ofNat_of_zero_le hi0
    rw [Int.toNat_natCast] at HE
    refine callsIn_of_wp_marks Try.func56 rfl trivial ?_ rfl
    simp only [Try.ntmps56, List.size_toArray, List.length_cons, List.length_nil, Nat.reduceAdd, Nat.reduceSub, Array.replicate_succ, Array.replicate_zero, List.push_toArray, List.append_toArray, List.nil_append, List.cons_append]
    gi_wp2_with fail
    refine ⟨wide_room _, (callsIn_wide.2 (fibs_any _)).mono ?_⟩
    rintro e w1 ⟨rfl, rfl⟩
    gi_wp2_with fail
    change Code.wpIn _ _ _ _ _ _ (fibW w N)
    obtain ⟨hE, hsz, hbx, hbo⟩ := fibW_all w N
    have HN := Lib.hid (show N ≤ 200 by omega)
    generalize fibW w N = W0 at *
    have HSZ := Lib.hid hsz
    have HBX := Lib.hid hbx
    have HBO := Lib.hid hbo
    have HEX := Lib.hid hE
    clear hbx hbo hE hsz
    refine range_fibs (N := N) (id := 0) hn.out HN.out rfl (fun W => Boxed W w.heap.size 3 (.int .i64 N) ∧ Boxed W (w.heap.size + 1) 23 (.slice none 0 0) ∧ Below w.heap.size W0 W)
      (fun W => ∃ a l c, Boxed W (w.heap.size + 1) 23 (.slice a l c) ∧ NumIs W (.slice a l c) (fibN N) ∧ Below w.heap.size W0 W)
      (fun W W' hs ⟨i1, i2, i3⟩ hE => ⟨hE.get i1, hE.get i2, i3.trans (RowKit.Below.mono hE (by have := HSZ.out; omega))⟩) ?put ?putx ⟨HBX.out, HBO.out, RowKit.Below.refl _ _⟩
      (fun k v => { tmps := #[Value.int IntKind.i64 N, Value.pointer (some { block := w.heap.size, off := 0 }), Value.pointer (some { block := w.heap.size + 1, off := 0 }), Value.int IntKind.i64 0, Value.int IntKind.i64 k, v,
                Value.int IntKind.i64 N, Value.bool (decide ((N : Int) < 0)), Value.bool (decide ((N : Int) < 0)), Value.int IntKind.i64 N, Value.bool (decide (200 < (N : Int))),
                Value.bool (decide ((N : Int) < 0) || decide (200 < (N : Int))), Value.func (Fn.func 96) #[] #[], Value.int IntKind.i64 k, v, undef, undef, undef, undef, undef], defers := [] }) ?assign ?body ?stop
    case put =>
      rintro W l o o' hl ho hc ⟨i1, i2, i3⟩
      have h0 := (Array.getElem?_eq_some_iff.1 ho).1
      exact ⟨i1.kept (grownBy_putObj' _ l _) (by have := HSZ.out; simp; omega), i2.kept (grownBy_putObj' _ l _) (by have := HSZ.out; simp; omega), below_putN i3 (by have := HSZ.out; omega) (by have := HSZ.out; omega) _⟩
    case putx =>
      rintro W l o o' hl ho hc ⟨a, ln, c, i1, i2, i3⟩
      have h0 := (Array.getElem?_eq_some_iff.1 ho).1
      exact ⟨a, ln, c, i1.kept (grownBy_putObj' _ l _) (by have := HSZ.out; simp; omega), i2.kn (Keep.putObj _ _ _ _ ho hc), below_putN i3 (by have := HSZ.out; omega) (by have := HSZ.out; omega) _⟩
    case assign =>
      intro m l k v W K hK
      gi_wp2
      exact hK
    case body =>
      rintro m l k v W hk hs ⟨i1, i2, i3⟩ hv
      obtain ⟨a, ln, c, rfl⟩ : ∃ a ln c, v = .slice a ln c := by
        obtain ⟨xs, g1, _⟩ := hv
        obtain ⟨a, c, e⟩ := g1.slice
        exact ⟨a, _, c, e⟩
      have HV := Lib.hid hv
      have HI := Lib.hid (And.intro i1 (And.intro i2 i3))
      have hc1 := i1.cell
      have hc2 := i2.cell
      have hf2 := i2.frozen
      clear hv i1 i2 i3
      by_cases e : k = N
      · subst e
        gi_wp2
        refine ⟨rfl, rfl, keepsFrom_set _ _ _, a, ln, c, HI.out.2.1.set _, HV.out.box HI.out.2.1 (fun k m e => by cases e), ?_⟩
        exact HI.out.2.2.setCell (p := ⟨w.heap.size + 1, 0, none⟩) (Nat.le_succ _) _
      · have e' : ¬ (k : Int) = (N : Int) := by omega
        have HX := Lib.hid e
        clear e
        gi_wp2
        exact ⟨by first | rfl | exact decide_eq_false HX.out, KeepsFrom.refl _ _, Keep.refl _ _, HI.out⟩
    case stop =>
      rintro D W hD ⟨a, ln, c, i1, i2, i3⟩ hK
      have HI := Lib.hid (And.intro i1 (And.intro i2 (And.intro i3 (And.intro hD hK))))
      have hc2 := i1.cell
      have hf2 := i1.frozen
      clear i1 i2 i3 hD hK
      gi_wp2_with fail
      have f1 : (W.setCell ⟨w.heap.size + 1, 0, none⟩ (.slice a ln c)).heap[D]? = some (.deferred (some [])) := (KeepsOthers.setCell _ _ _).same D _ HI.out.2.2.2.2 rfl
      have hD := HI.out.2.2.2.1
      have hs := HSZ.out
      have f2 := (HI.out.1.set (.slice a ln c)).kept (grownBy_putObj' _ D (.deferred none)) (by simp; omega)
      have f3 : NumIs ((W.setCell ⟨w.heap.size + 1, 0, none⟩ (.slice a ln c)).putObj D (.deferred none)) (.slice a ln c) (fibN N) := (HI.out.2.1.box HI.out.1 (fun k m e => by cases e)).kn (Keep.putObj _ _ _ _ f1 rfl)
      have hB : Below w.heap.size w W0 := HEX.out
      have hB2 := (hB.trans HI.out.2.2.1).setCell (p := ⟨w.heap.size + 1, 0, none⟩) (Nat.le_succ _) (.slice a ln c)
      refine ⟨by simp, .inl ⟨_, _, rfl, run_takeDeferred f1, ?_⟩⟩
      exact ⟨_, results_cell_slot rfl _ _ rfl rfl (fun _ => by kernel_rfl) f2.cell, .slice a ln c, by rw [HE.out.1]; rfl, by rw [HE.out.2]; exact f3, below_putN hB2 (Below.size hB2) (by omega) _⟩
  · have HE := Lib.hid (show FibE i = 2 ∧ FibV i = 0 by unfold FibE FibV; rw [if_neg hi, if_neg hi]; exact ⟨rfl, rfl⟩)
    by_cases e0 : i < 0
    · clear hi
      refine callsIn_of_wp_marks Try.func56 rfl trivial ?_ rfl
      simp only [Try.ntmps56, List.size_toArray, List.length_cons, List.length_nil, Nat.reduceAdd, Nat.reduceSub, Array.replicate_succ, Array.replicate_zero, List.push_toArray, List.append_toArray, List.nil_append, List.cons_append]
      gi_wp2_with fail
      exact ⟨_, results_cell_slot rfl _ _ rfl rfl (fun _ => by kernel_rfl) (fibW_all w i).2.2.2.cell, .slice none 0 0, by rw [HE.out.1]; rfl, by rw [HE.out.2]; exact num_nil _ _ _, (fibW_all w i).1⟩
    · have e1 : 200 < i := by omega
      clear hi
      refine callsIn_of_wp_marks Try.func56 rfl trivial ?_ rfl
      simp only [Try.ntmps56, List.size_toArray, List.length_cons, List.length_nil, Nat.reduceAdd, Nat.reduceSub, Array.replicate_succ, Array.replicate_zero, List.push_toArray, List.append_toArray, List.nil_append, List.cons_append]
      gi_wp2_with fail
      exact ⟨_, results_cell_slot rfl _ _ rfl rfl (fun _ => by kernel_rfl) (fibW_all w i).2.2.2.cell, .slice none 0 0, by rw [HE.out.1]; rfl, by rw [HE.out.2]; exact num_nil _ _ _, (fibW_all w i).1⟩
/-- **nat.Fib**, at any place. -/
theorem natFib_any (w : World) (i : Int) : Calls Try.prog 56 #[.int .i64 i] w (Fibs i w) := callsIn_wide.1 (natFib_in 1 (Lib.hid (Nat.le_refl 1)) w i)
end Go.Proofs.Ytejknkhahjgdnaa
