/- A slice of calls that came in, as it is read. -/
import Derived.Test.YtedpjfanfhhfdaaRows
import Derived.Test.YtedpjfanfhhfdaaUDone
import Derived.Deep.Slices
import Derived.Deep.Strs
import Derived.ProofKit
import Derived.OpenShut
import Derived.Carry
namespace Go.Proofs.Ytedpjfanfhhfdaa
open Go.ChangeShapes Go.WideShapes Go.ChangeAt Go.RowKit Go.Deep

theorem cells39 : Try.prog.cellsOf 39 = 3 := by kernel_rfl
theorem cells3 : Try.prog.cellsOf 3 = 1 := by kernel_rfl
theorem cells9 : Try.prog.cellsOf 9 = 1 := by kernel_rfl
instance : Inhabited Act1 := ⟨⟨0, 0, ⟨#[]⟩⟩⟩

theorem addr_of_cell {w : World} {a : Addr} {v : Value} (h : w.cell? a = some v) : a = ⟨a.block, a.off, none⟩ := by
  obtain ⟨b, off, sp⟩ := a
  cases sp with
  | none => rfl
  | some x =>
    simp only [World.cell?] at h
    split at h
    · simp at h
    · cases h

set_option maxRecDepth 100000 in
theorem open_acts {H : Type} {enc : TypeId × Value → H} {W : World} {v : Value} {d : DataW H} {p : List MemPlace} (hv : ∃ a len cap, v = .slice a len cap) (h : DataW.Trod enc Try.prog W 0 (fun _ => true) true 22 v d p) :
    ∃ (A : Option Addr) (cap : Nat) (l : List Act1), v = .slice A l.length cap ∧ Acts W A l ∧ l.length ≤ 9223372036854775807 ∧ ∀ a ∈ l, a.name.size ≤ maxLen := by
  obtain ⟨a0, len0, cap0, rfl⟩ := hv
  obtain ⟨fuel, hf⟩ := h
  rcases open_slice Try.underlying22 hf with ⟨hcs, hx⟩ | ⟨a, len, cap, m, n, D, Pl, hcs, _, hl, hm, hmm, hx, hel⟩
  · simp [Value.cells] at hcs
    obtain ⟨rfl, rfl, rfl⟩ := hcs
    exact ⟨none, 0, [], rfl, fun h => absurd rfl h, by simp, fun a h => by cases h⟩
  · simp [Value.cells] at hcs
    obtain ⟨rfl, rfl, rfl⟩ := hcs
    rw [cells39] at hel
    have hml : len0 ≤ m := by rw [hmm]; split <;> omega
    obtain ⟨F, hF⟩ := choose_lt (α := Act1) (n := len0) (p := fun i x => W.cell? (a.add (i * 3)) = some (.int .i64 x.kind) ∧ W.cell? ((a.add (i * 3)).add 1) = some (.int .i64 x.x) ∧ W.cell? ((a.add (i * 3)).add 2) = some (.string x.name) ∧ x.name.size ≤ maxLen) (fun i hi => by
      obtain ⟨cs', h1, h2⟩ := hel i (by omega)
      obtain ⟨_, hlen, hc⟩ := World.cells?_some h1
      obtain ⟨y0, y1, y2, n', _, hl2, t0, t1, t2⟩ := trod_struct3 Try.underlying39 h2
      match cs', hlen with
      | [v0, v1, v2], _ =>
        obtain ⟨k0, e0, _, _⟩ := DataW.trod_int Try.underlying3 t0
        obtain ⟨k1, e1, _, _⟩ := DataW.trod_int Try.underlying3 t1
        obtain ⟨k2, e2, _, hk2⟩ := DataW.trod_string Try.underlying9 t2
        simp [cells3, cells9] at e0 e1 e2
        subst e0 e1 e2
        have c0 := hc 0 (by omega)
        have c1 := hc 1 (by omega)
        have c2 := hc 2 (by omega)
        simp [Addr.add] at c0
        exact ⟨⟨k0, k1, k2⟩, by simpa [Addr.add] using c0, by simpa using c1, by simpa using c2, hk2⟩)
    refine ⟨some a, cap0, (List.range len0).map F, by simp, ?_, by simp; unfold maxLen at hm; omega, ?_⟩
    · intro hne
      have hpos : 0 < len0 := by
        rcases Nat.eq_zero_or_pos len0 with h | h
        · subst h; exact absurd rfl hne
        · exact h
      have c00 := (hF 0 hpos).1
      have ha0 : a.add (0 * 3) = a := by simp [Addr.add]
      rw [ha0] at c00
      have ea := addr_of_cell c00
      obtain ⟨b, off, sp⟩ := a
      cases ea
      have hblk : ∃ cs t fr, W.heap[b]? = some (.cells cs t fr) := by
        simp only [World.cell?] at c00
        split at c00
        · rename_i cs t fr h; exact ⟨cs, t, fr, h⟩
        · cases c00
      obtain ⟨cs, t, fr, hb⟩ := hblk
      refine ⟨b, off, cs, t, fr, rfl, hb, fun j hj => ?_⟩
      have hj' : j < len0 := by simpa using hj
      have hadd : ∀ k, (⟨b, off, none⟩ : Addr).add k = ⟨b, off + k, none⟩ := fun k => by unfold Addr.add; by_cases h0 : k = 0 <;> simp [h0]
      have hadd2 : ∀ o k, (⟨b, o, none⟩ : Addr).add k = ⟨b, o + k, none⟩ := fun o k => by unfold Addr.add; by_cases h0 : k = 0 <;> simp [h0]
      obtain ⟨f0, f1, f2, _⟩ := hF j hj'
      rw [hadd, cell_of_blk hb] at f0
      rw [hadd, hadd2, cell_of_blk hb] at f1
      rw [hadd, hadd2, cell_of_blk hb] at f2
      simp only [List.getElem_map, List.getElem_range]
      exact ⟨f0, f1, f2⟩
    · intro x hx
      obtain ⟨i, hi, rfl⟩ := List.mem_map.1 hx
      exact (hF i (List.mem_range.1 hi)).2.2.2

end Go.Proofs.Ytedpjfanfhhfdaa
