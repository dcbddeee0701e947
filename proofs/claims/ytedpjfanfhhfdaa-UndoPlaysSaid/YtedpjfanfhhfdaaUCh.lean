/- What a step leaves alone: a relation between two worlds, by the blocks that may have turned. -/
import Derived.Test.YtedpjfanfhhfdaaUMap
import Derived.Deep.Draws
import Derived.WalkSpells
import Derived.WalkLawsBesides
namespace Go.Proofs.Ytedpjfanfhhfdaa
open Go.ChangeMaps Go.MapKept Go.WideShapes Go.RowKit

/-- nothing has turned but blocks of S, and what is new -/
structure Ch (S : Nat → Prop) (w w' : World) : Prop where
  os : w'.os = w.os
  tape : w'.tape = w.tape
  output : w'.output = w.output
  size : w.heap.size ≤ w'.heap.size
  block : ∀ i, i < w.heap.size → ¬ S i → w'.heap[i]? = w.heap[i]?

theorem Ch.refl (S : Nat → Prop) (w : World) : Ch S w w := ⟨rfl, rfl, rfl, Nat.le_refl _, fun _ _ _ => rfl⟩
theorem Ch.trans' {S T U : Nat → Prop} {a b c : World} (h : Ch S a b) (k : Ch T b c) (hS : ∀ i, S i → U i) (hT : ∀ i, i < a.heap.size → T i → U i) : Ch U a c :=
  ⟨k.os.trans h.os, k.tape.trans h.tape, k.output.trans h.output, Nat.le_trans h.size k.size, fun i hi hu =>
    (k.block i (Nat.lt_of_lt_of_le hi h.size) (fun ht => hu (hT i hi ht))).trans (h.block i hi (fun hs => hu (hS i hs)))⟩
theorem Ch.trans {S : Nat → Prop} {a b c : World} (h : Ch S a b) (k : Ch S b c) : Ch S a c := h.trans' k (fun _ h => h) (fun _ _ h => h)
theorem Ch.mono {S T : Nat → Prop} {a b : World} (h : Ch S a b) (hS : ∀ i, i < a.heap.size → S i → T i) : Ch T a b :=
  ⟨h.os, h.tape, h.output, h.size, fun i hi ht => h.block i hi (fun hs => ht (hS i hi hs))⟩
theorem Ch.drewN {S : Nat → Prop} {a b : World} (h : Ch S a b) (n : Nat) : Ch S a (b.drewN n) := ⟨h.os, h.tape, h.output, h.size, h.block⟩
theorem Ch.drew {S : Nat → Prop} {a b : World} (h : Ch S a b) : Ch S a b.drew := ⟨h.os, h.tape, h.output, h.size, h.block⟩
theorem Ch.heap {S : Nat → Prop} {a b b' : World} (h : Ch S a b) (e1 : b'.heap = b.heap) (e2 : b'.os = b.os) (e3 : b'.tape = b.tape) (e4 : b'.output = b.output) : Ch S a b' :=
  ⟨e2.trans h.os, e3.trans h.tape, e4.trans h.output, by rw [e1]; exact h.size, fun i hi hs => by rw [e1]; exact h.block i hi hs⟩
theorem Ch.alloc {S : Nat → Prop} {a b : World} (h : Ch S a b) (o : Obj) : Ch S a (b.alloc o) :=
  ⟨h.os, h.tape, h.output, by have := h.size; simp; omega, fun i hi hs => (Below.heap_alloc b o i (Nat.lt_of_lt_of_le hi h.size)).trans (h.block i hi hs)⟩
theorem Ch.setCell {S : Nat → Prop} {a b : World} (h : Ch S a b) (p : Addr) (hp : p.block < a.heap.size → S p.block) (v : Value) : Ch S a (b.setCell p v) :=
  ⟨h.os, h.tape, h.output, by have := h.size; simpa using this, fun i hi hs => (Below.heap_setCell b p v i (fun e => hs (by subst e; exact hp hi))).trans (h.block i hi hs)⟩
theorem heap_setBlock_ne (w : World) (r : Nat) (o : Obj) (i : Nat) (h : i ≠ r) : (setBlock w r o).heap[i]? = w.heap[i]? := by
  show (w.heap.setIfInBounds r o)[i]? = _
  rw [Array.getElem?_setIfInBounds_ne (fun e => h e.symm)]
theorem heap_setBlock_eq (w : World) (r : Nat) (o : Obj) (h : r < w.heap.size) : (setBlock w r o).heap[r]? = some o := by
  show (w.heap.setIfInBounds r o)[r]? = _
  rw [Array.getElem?_setIfInBounds_self_of_lt h]
theorem Ch.setBlock {S : Nat → Prop} {a b : World} (h : Ch S a b) (r : Nat) (hr : r < a.heap.size → S r) (o : Obj) : Ch S a (setBlock b r o) :=
  ⟨h.os, h.tape, h.output, by have := h.size; simpa [ChangeMaps.setBlock] using this, fun i hi hs => (heap_setBlock_ne b r o i (fun e => hs (by subst e; exact hr hi))).trans (h.block i hi hs)⟩
theorem Ch.of_below {S : Nat → Prop} {a b : World} (h : Below a.heap.size a b) : Ch S a b := ⟨h.os, h.tape, h.output, h.size, fun i hi _ => h.block i hi⟩
theorem Ch.below {S : Nat → Prop} {a b : World} (h : Ch S a b) {B : Nat} (hB : B ≤ a.heap.size) (hS : ∀ i, i < B → ¬ S i) : Below B a b := ⟨h.os, h.tape, h.output, h.size, fun i hi => h.block i (Nat.lt_of_lt_of_le hi hB) (hS i hi)⟩
theorem blk_size {w : World} {b : Nat} {o : Obj} (h : w.heap[b]? = some o) : b < w.heap.size := (Array.getElem?_eq_some_iff.1 h).1
theorem Ch.blk {S : Nat → Prop} {a b : World} (h : Ch S a b) {i : Nat} {o : Obj} (hb : a.heap[i]? = some o) (hs : ¬ S i) : b.heap[i]? = some o := (h.block i (blk_size hb) hs).trans hb

theorem cell_of_blk {w : World} {b : Nat} {cs : Array Value} {t : TypeId} {fr : Nat × Nat} (h : w.heap[b]? = some (.cells cs t fr)) (i : Nat) : w.cell? ⟨b, i, none⟩ = cs[i]? := by
  simp [World.cell?, h]
theorem frozen_of_blk {w : World} {b : Nat} {cs : Array Value} {t : TypeId} (h : w.heap[b]? = some (.cells cs t (0, 0))) (i : Nat) : w.frozen? ⟨b, i, none⟩ = false := by
  simp [World.frozen?, h]
theorem blk_setCell {w : World} {b : Nat} {cs : Array Value} {t : TypeId} {fr : Nat × Nat} (h : w.heap[b]? = some (.cells cs t fr)) (i : Nat) (v : Value) :
    (w.setCell ⟨b, i, none⟩ v).heap[b]? = some (.cells (cs.setIfInBounds i v) t fr) := by
  simp [World.setCell, Array.getElem?_modify, h]

theorem MapB.lt {w : World} {b : Nat} {L : List Ent} {c : Nat} (h : MapB w b L c) : b < w.heap.size := blk_size h.blk
theorem MapB.keep {w w' : World} {b : Nat} {L : List Ent} {c : Nat} (h : MapB w b L c) (hb : w'.heap[b]? = w.heap[b]?) : MapB w' b L c := ⟨hb.trans h.blk, h.old, h.borns, h.keys, h.small⟩
theorem MapB.ch {S : Nat → Prop} {w w' : World} {b : Nat} {L : List Ent} {c : Nat} (h : MapB w b L c) (k : Ch S w w') (hs : ¬ S b) : MapB w' b L c := h.keep (k.block b h.lt hs)

/-! ### ranging -/
def leftE (L : List Ent) (seen : Array Nat) : Nat := (leftOf (L.map Ent.e).toArray seen).size

/-- the step of a range -/
theorem MapB.next {w : World} {b : Nat} {L : List Ent} {c : Nat} (h : MapB w b L c) {r : Nat} {seen : Array Nat} (hr : w.heap[r]? = some (.mapIter (some b) c seen c)) (ty : TypeId) :
    ((∀ x ∈ L, seen.contains x.born = true) ∧ (Instr.next (.pointer (some ⟨r, 0, none⟩)) false ty).run Try.prog w = .ok (.tuple #[.bool false]) w) ∨
    ∃ x ∈ L, seen.contains x.born = false ∧ ∃ w1, (Instr.next (.pointer (some ⟨r, 0, none⟩)) false ty).run Try.prog w = .ok (.tuple #[.bool true, .string x.key, .int .i64 x.val]) w1 ∧
      (Instr.entry (.pointer (some ⟨r, 0, none⟩))).run Try.prog w1 = .ok (.tuple #[.string x.key, .int .i64 x.val]) w1 ∧
      w1.heap[r]? = some (.mapIter (some b) c (seen.push x.born) c) ∧ Ch (· = r) w w1 ∧ leftE L (seen.push x.born) < leftE L seen := by
  have hne : b ≠ r := fun e => by subst e; have := h.blk; rw [hr] at this; cases this
  have hold : ∀ e ∈ (L.map Ent.e).toArray.toList, e.born < c := by
    intro e he
    simp only [List.mem_map] at he
    obtain ⟨x, hx, rfl⟩ := he
    exact h.old x hx
  rcases run_next_at (P := Try.prog) w ty r b c c seen (L.map Ent.e).toArray c hr h.blk hold (Nat.le_refl _) with ⟨h0, hrun⟩ | ⟨e, he, w1, hal, hrun⟩
  · exact .inl ⟨fun x hx => all_seen _ seen h0 (Ent.e x) (by simp only [List.mem_map]; exact ⟨x, hx, rfl⟩), hrun⟩
  · obtain ⟨hem, hes⟩ := mem_left he
    have hem0 := hem
    simp only [List.mem_map] at hem
    obtain ⟨x, hx, rfl⟩ := hem
    have hr1 : w1.heap[r]? = some (.mapIter (some b) c seen c) := by rcases hal with rfl | rfl <;> exact hr
    have hb1 : w1.heap[b]? = some (.map (L.map Ent.e).toArray c) := by rcases hal with rfl | rfl <;> exact h.blk
    have hs1 := heap_setBlock_eq w1 r (.mapIter (some b) c (seen.push (Ent.e x).born) c) (blk_size hr1)
    have hs2 := (heap_setBlock_ne w1 r (.mapIter (some b) c (seen.push (Ent.e x).born) c) b hne).trans hb1
    refine .inr ⟨x, hx, hes, _, hrun, ?_, hs1, ?_, left_shrinks _ seen _ he⟩
    · refine run_entry_at _ r b c seen _ c (Ent.e x) hs1 hs2 hem0 ?_
      have : (L.map Ent.e).map (·.born) = L.map (·.born) := by rw [List.map_map]; rfl
      simp only [this]
      exact h.borns
    · have : Ch (· = r) w w1 := by rcases hal with rfl | rfl; exact Ch.refl _ _; exact (Ch.refl _ _).drew
      exact this.setBlock r (fun _ => rfl) _

/-! ### at the operations -/
section
variable {w : World} {ops : Array Oper} {rest : List Oper} {o : Oper} {a : Act} {Q : Exit → Act → World → Prop} {b : Nat} {L : List Ent} {c : Nat} {s : ByteArray}

theorem wpList_drop (hg : o.guard = none) (hd : o.dst = none) (m x : Operand) (hop : o.op = Op.call { callee := Callee.builtin Builtin.delete, args := #[m, x], argTypes := #[53, 9] })
    (h : MapB w b L c) (hs : s.size ≤ maxLen) (hm : a.eval m = .map (some b)) (hx : a.eval x = .string s)
    (hK : wpList Try.prog ops Q rest a (setBlock w b (.map ((delE L s).map Ent.e).toArray c))) : wpList Try.prog ops Q (o :: rest) a w := by
  refine wpList_plain hg fun K' hK' => ?_
  have hrun := h.drop hs o.type
  unfold Oper.wp
  simp [execOp, hop, resolve, invoke, builtin, hm, hx, hrun, Result.andThen]
  exact hK' _ _ (by rw [hd]; exact hK)

theorem wpList_store (hg : o.guard = none) (hd : o.dst = none) (m x v : Operand) (hop : o.op = Op.mapUpdate 53 m x v) (n : Int)
    (h : MapB w b L c) (hs : s.size ≤ maxLen) (hm : a.eval m = .map (some b)) (hx : a.eval x = .string s) (hv : a.eval v = .int .i64 n)
    (hK : wpList Try.prog ops Q rest a (setBlock w b (.map ((putE L c s n).map Ent.e).toArray (putC L c s)))) : wpList Try.prog ops Q (o :: rest) a w := by
  refine wpList_plain hg fun K' hK' => ?_
  have hrun := h.store hs n
  unfold Oper.wp
  simp [execOp, hop, hm, hx, hv, hrun, Result.andThen]
  exact hK' _ _ (by rw [hd]; exact hK)
end

end Go.Proofs.Ytedpjfanfhhfdaa
