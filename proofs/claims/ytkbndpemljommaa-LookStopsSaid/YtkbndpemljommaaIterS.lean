/- A range over a function, without variables. -/
import Derived.Test.YtkbndpemljommaaIterO
namespace Go.Proofs.Ytkbndpemljommaa
open Go Go.RowKit Go.Shelf

/-- the same, of a loop without variables. -/
theorem range_skip {α : Type} {n : Nat} {g : Operand} {ps : Array Tmp} {body : Code} {Q : Exit → Act → World → Prop} {a : Act} {w : World} {gf : Nat} {lb : Array Value} (hg : a.eval g = .func (.func gf) #[] lb) (eg : ∀ args w, (callFunc gf args).run Try.prog w = .ok (.enter gf args) w)
    {encs : α → Array Value} {xs : List α} {d : Nat} {M : Nat → Prop} (hseq : Iter gf lb encs xs d M w) (hM : ∀ j, j < d → ¬ M (w.heap.size + 2 + j)) (hps : ∀ x, (encs x).size = ps.size)
    (I : List α → World → Prop) (Ix : Code → List α → World → Prop) (hI : Holds w.heap.size I) (hIx : ∀ c, Holds w.heap.size (Ix c)) (h0 : I [] w)
    (hbody : ∀ (l m : Nat) (pre : List α) (x : α) (W : World), w.heap.size + 2 + d ≤ W.heap.size → x ∈ xs → I pre W → pre.length < xs.length → body.wpIn (Fence.wide.inRound l) m Try.prog (ownPostG w.heap.size (Keep M) I Ix (pre ++ [x]) W) { tmps := (ps.zip (encs x)).foldl (fun t (p, v) => t.setIfInBounds p v) a.tmps, defers := [] } W)
    (hdone : ∀ (D : Nat) (W : World), w.heap.size ≤ D → I xs W → W.heap[D]? = some (.deferred (some [])) → Q .normal { a with defers := { target := .collected D, args := #[] } :: a.defers } W)
    (hstop : ∀ (D : Nat) (c : Code) (pre : List α) (W : World), w.heap.size ≤ D → pre <+: xs → Ix c pre W → W.heap[D]? = some (.deferred (some [])) → c.wpIn Fence.wide n Try.prog Q { a with defers := { target := .collected D, args := #[] } :: a.defers } W) :
    (Code.rangeFunc g ps Code.skip body).wpIn Fence.wide n Try.prog Q a w :=
  range_raw hg eg hseq hM hps I Ix hI hIx h0 (fun x a' _ => a' = { tmps := (ps.zip (encs x)).foldl (fun t (p, v) => t.setIfInBounds p v) a.tmps, defers := [] }) (fun _ _ _ _ _ _ h _ _ => h)
    (fun _ _ _ _ _ _ hK => wpIn_skip (hK _ _ (Ext.refl _) rfl)) (fun l m pre x a' W h1 h2 h3 h4 h5 => by subst h4; exact hbody l m pre x W h1 h2 h3 h5) hdone hstop
end Go.Proofs.Ytkbndpemljommaa
