/- avl.Check, avl.May. -/
import Derived.Test.YtkbndpemljommaaAvlChk
namespace Go.Proofs.Ytkbndpemljommaa
open Go Go.RowKit Go.Shelf
attribute [local go_sem] Oper.semAt_some

/-- the first node that is wrong, and how. -/
def avlFirst : List Tr → Nat × Int
  | [] => (0, 0)
  | t :: r => if avlBadTag t then (0, 140) else if avlBadTree t then (0, 8) else ((avlFirst r).1 + 1, (avlFirst r).2)

theorem avlFirst_good : ∀ {l : List Tr}, (∀ t ∈ l, avlBadTag t = false ∧ avlBadTree t = false) → avlFirst l = (l.length, 0)
  | [], _ => rfl
  | t :: l, h => by
    have h0 := h t (List.mem_cons_self ..)
    have h1 := avlFirst_good (l := l) (fun x hx => h x (List.mem_cons_of_mem _ hx))
    simp [avlFirst, h0.1, h0.2, h1]
theorem avlFirst_bad {x : Tr} {r : List Tr} : ∀ {l : List Tr}, (∀ t ∈ l, avlBadTag t = false ∧ avlBadTree t = false) → avlFirst (l ++ x :: r) = (l.length + (avlFirst (x :: r)).1, (avlFirst (x :: r)).2)
  | [], _ => by simp
  | t :: l, h => by
    have h0 := h t (List.mem_cons_self ..)
    have h1 := avlFirst_bad (l := l) (x := x) (r := r) (fun x hx => h x (List.mem_cons_of_mem _ hx))
    rw [List.cons_append, avlFirst, if_neg (by simp [h0.1]), if_neg (by simp [h0.2]), h1]
    simp; omega
theorem wrap64_succ (a : Int) : wrap64 (wrap64 a + 1) = wrap64 (a + 1) := by unfold wrap64; omega
theorem results_cells2 {fn : Func} {t u : Tmp} {A B : TypeId} (h : fn.results = #[.cell t A, .cell u B]) (tmps : Array Value) (w : World) {a b : Value} {p q : Addr} (ht : tmps.getD t undef = .pointer (some p)) (hu : tmps.getD u undef = .pointer (some q))
    (hA : ∀ w : World, (isAgg A).run Try.prog w = .ok false w) (hB : ∀ w : World, (isAgg B).run Try.prog w = .ok false w) (hp : w.cell? p = some a) (hq : w.cell? q = some b) :
    (results fn tmps).run Try.prog w = .ok (.tuple #[a, b]) w := by
  simp only [Array.getD_eq_getD_getElem?] at ht hu
  simp [results, h, ht, hu, loadVar, hA, hB, asAddr, hp, hq]
/-- may it be? -/
def avlMay (T : Tr) : Bool := (avlFirst T.pre).2 == 0
end Go.Proofs.Ytkbndpemljommaa
