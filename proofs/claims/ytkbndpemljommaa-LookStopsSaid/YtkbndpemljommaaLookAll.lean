/- look.All and look.Back, as iterators over a tree's pairs. -/
import Derived.Test.YtkbndpemljommaaIterLook
namespace Go.Proofs.Ytkbndpemljommaa
open Go Go.RowKit Go.Shelf
attribute [local go_sem] Oper.semAt_some

/-- what look.pairs hands back. -/
def pairsV (bq : Nat) : Value := .func (.func 31) #[] #[.pointer (some ⟨bq, 0, none⟩)]
theorem pairs_any (w : World) (N : Nat) : Calls Try.prog 19 #[goesV N] w fun e w' => e = .returned (pairsV w.heap.size) ∧ w' = w.alloc (.cells #[goesV N] 49) := by
  unfold goesV
  have hmf : ∀ (fn : Fn) (first cap : Array Value) (w : World), (Instr.makeFunc fn first cap).run Try.prog w = .ok (.func fn first cap) w := fun _ _ _ _ => rfl
  go_enter Try.func19, Try.ntmps19
  go_wp2
  go_ret
  exact ⟨rfl, rfl⟩
/-- what goes over the pairs of a row: whatever blocks M a round may turn, but those that it needs. -/
def Goes (zs : List (Int × Int)) (T : Tr) (w : World) (e : Ending) (w' : World) : Prop :=
  ∃ bq, e = .returned (pairsV bq) ∧ Ext w w' ∧ w'.heap.size = w.heap.size + 4 ∧ ∀ M : Nat → Prop, (∀ i, w.heap.size ≤ i → i < w.heap.size + 4 → ¬ M i) → Off M T → Iter 31 #[.pointer (some ⟨bq, 0, none⟩)] (fun z : Int × Int => #[Value.int .i64 z.1, .int .i64 z.2]) zs 5 M w'
theorem inl_sub {w : World} {M : Nat → Prop} : ∀ {T : Tr}, InH w T → Off M T → ∀ x ∈ T.inl, InH w x ∧ x ≠ .nil ∧ Off M x
  | .nil, _, _, x, h => by cases h
  | .node b l k v g r, hT, ho, x, h => by
    rcases List.mem_append.1 h with h | h
    · exact inl_sub hT.2.1 ho.2.1 x h
    · rcases List.mem_cons.1 h with rfl | h
      · exact ⟨hT, ⟨fun h => (by cases h), ho⟩⟩
      · exact inl_sub hT.2.2 ho.2.2 x h
theorem inr_sub {w : World} {M : Nat → Prop} {T : Tr} (hT : InH w T) (ho : Off M T) : ∀ x ∈ T.inr, InH w x ∧ x ≠ .nil ∧ Off M x := fun x h => by
  rw [inr_rev] at h
  exact inl_sub hT ho x (List.mem_reverse.1 h)
theorem goes_pairs {w : World} {T : Tr} (hT : InH w T) {F1 F2 : Nat} {xs : List Tr}
    (hit : ∀ M : Nat → Prop, ∀ W : World, InH W T → Off M T → Boxed W (w.heap.size + 1) 52 (.func (.func F1) #[] #[]) → Boxed W (w.heap.size + 1 + 1) 52 (.func (.func F2) #[] #[]) → Boxed W w.heap.size 25 (.pointer T.ptr) → ¬ M (w.heap.size + 1) → ¬ M (w.heap.size + 1 + 1) →
      Iter 33 #[.pointer (some ⟨w.heap.size + 1, 0, none⟩), .pointer (some ⟨w.heap.size + 1 + 1, 0, none⟩), .pointer (some ⟨w.heap.size, 0, none⟩)] (fun x : Tr => #[Value.pointer x.ptr]) xs 2 M W)
    (hx : ∀ (M : Nat → Prop) W, InH W T → Off M T → ∀ x ∈ xs, InH W x ∧ x ≠ .nil ∧ Off M x) :
    Goes (xs.map kvT) T w (.returned (pairsV (goesW w T.ptr (.func (.func F1) #[] #[]) (.func (.func F2) #[] #[])).heap.size)) ((goesW w T.ptr (.func (.func F1) #[] #[]) (.func (.func F2) #[] #[])).alloc (.cells #[goesV w.heap.size] 49)) := by
  obtain ⟨hE, hsz, htb, hba, hbb⟩ := goesW_all w T.ptr (.func (.func F1) #[] #[]) (.func (.func F2) #[] #[])
  generalize goesW w T.ptr (.func (.func F1) #[] #[]) (.func (.func F2) #[] #[]) = W0 at *
  have hE2 := (Ext.refl W0).alloc (.cells #[goesV w.heap.size] 49)
  refine ⟨W0.heap.size, rfl, hE.trans hE2, by simp [hsz], fun M hM ho => ?_⟩
  exact pairs_iter (enters_of Try.func33 (by kernel_rfl) rfl) xs 2 M _ W0.heap.size (Boxed.new W0 _ _)
    ((hit M W0 (hT.ext hE) ho hba hbb htb (hM _ (by omega) (by omega)) (hM _ (by omega) (by omega))).more hE2) (hx M _ ((hT.ext hE).ext hE2) ho)
/-- **look.All**. -/
theorem all_any (w : World) (T : Tr) (hT : InH w T) : Calls Try.prog 8 #[.pointer T.ptr] w (Goes (T.inl.map kvT) T w) := by
  have HN := Lib.hid (nodes_any w T.ptr)
  have HP := Lib.hid (pairs_any)
  have HG := Lib.hid (goes_pairs (w := w) hT (F1 := 23) (F2 := 22) (xs := T.inl) (fun M W h1 h2 h3 h4 h5 h6 h7 => goesL_iter M _ _ _ T W h3 h4 h5 h6 h7 h1 h2) (fun M W h1 h2 => inl_sub h1 h2))
  clear hT
  go_enter Try.func8, Try.ntmps8
  go_wp2_with fail
  refine HN.out.mono ?_
  rintro e w1 ⟨rfl, rfl⟩
  go_wp2_with fail
  refine (HP.out _ _).mono ?_
  rintro e w2 ⟨rfl, rfl⟩
  go_wp2
  go_ret
  exact HG.out
/-- **look.Back**. -/
theorem back_any (w : World) (T : Tr) (hT : InH w T) : Calls Try.prog 9 #[.pointer T.ptr] w (Goes (T.inr.map kvT) T w) := by
  have HN := Lib.hid (goes_any w T.ptr 22 23)
  have HP := Lib.hid (pairs_any)
  have HG := Lib.hid (goes_pairs (w := w) hT (F1 := 22) (F2 := 23) (xs := T.inr) (fun M W h1 h2 h3 h4 h5 h6 h7 => goesR_iter M _ _ _ T W h3 h4 h5 h6 h7 h1 h2) (fun M W h1 h2 => inr_sub h1 h2))
  clear hT
  go_enter Try.func9, Try.ntmps9
  go_wp2_with fail
  refine HN.out.mono ?_
  rintro e w1 ⟨rfl, rfl⟩
  go_wp2_with fail
  refine (HP.out _ _).mono ?_
  rintro e w2 ⟨rfl, rfl⟩
  go_wp2
  go_ret
  exact HG.out
end Go.Proofs.Ytkbndpemljommaa
