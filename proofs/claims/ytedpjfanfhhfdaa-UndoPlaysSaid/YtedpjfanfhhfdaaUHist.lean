/- A history as a Lean value, what its calls make of it, and how it lies in memory. -/
import Derived.Test.YtedpjfanfhhfdaaURow
import Derived.Test.YtedpjfanfhhfdaaUKeep
namespace Go.Proofs.Ytedpjfanfhhfdaa
open Go.ChangeMaps Go.MapKept Go.WideShapes Go.RowKit

/-- a history: how much it may hold, the place in the list, the list, the marks -/
structure Hist where
  most : Nat
  pos : Nat
  all : List Int
  marks : List (ByteArray × Int)

namespace Hist
def new (most : Int) : Hist := ⟨(max 0 (min most 256)).toNat, 0, [], []⟩
def stepM (lo hi : Int) (p : ByteArray × Int) : Option (ByteArray × Int) := if p.2 < lo ∨ hi < p.2 then none else some (p.1, p.2 - lo)
def keepM (lo hi : Int) (M : List (ByteArray × Int)) : List (ByteArray × Int) := M.filterMap (stepM lo hi)
def all1 (s : Hist) (x : Int) : List Int := s.all.take s.pos ++ [x]
def gone (s : Hist) : Nat := s.pos + 1 - s.most
def push (s : Hist) (x : Int) : Hist := ⟨s.most, s.pos + 1 - s.gone, (s.all1 x).drop s.gone, keepM s.gone s.pos s.marks⟩
def back (s : Hist) : Hist := { s with pos := s.pos - 1 }
def again (s : Hist) : Hist := { s with pos := s.pos + 1 }
def getM (M : List (ByteArray × Int)) (n : ByteArray) : Option Int := (M.find? (fun p => decide (p.1 = n))).map (·.2)
def setM (M : List (ByteArray × Int)) (n : ByteArray) (v : Int) : List (ByteArray × Int) := M.filter (fun p => decide (p.1 ≠ n)) ++ [(n, v)]
def markE (s : Hist) (n : ByteArray) : Int := if n.size = 0 ∨ 20 < n.size then 2 else if (getM s.marks n).isNone ∧ 16 ≤ s.marks.length then 7 else 0
def mark (s : Hist) (n : ByteArray) : Hist := if s.markE n = 0 then { s with marks := setM s.marks n s.pos } else s
/-- what lies between the place and a mark, as To tells it -/
def between (s : Hist) (t : Nat) : List Int := if t ≤ s.pos then ((s.all.take s.pos).drop t).reverse else (s.all.take t).drop s.pos
def goto (s : Hist) (t : Nat) : Hist := { s with pos := t }

structure Ok (s : Hist) : Prop where
  pos : s.pos ≤ s.all.length
  all : s.all.length ≤ s.most
  most : s.most ≤ 256
  marks : ∀ p ∈ s.marks, 0 ≤ p.2 ∧ p.2 ≤ s.all.length
  names : ∀ p ∈ s.marks, p.1.size ≤ 20
  count : s.marks.length ≤ 16
  nodup : (s.marks.map (·.1)).Nodup

theorem ok_new (m : Int) : (new m).Ok := ⟨Nat.zero_le _, Nat.zero_le _, (by simp only [new]; omega), (fun p hp => by cases hp), (fun p hp => by cases hp), by simp [new], by simp [new]⟩

theorem keepM_sub (lo hi : Int) (M : List (ByteArray × Int)) : ((keepM lo hi M).map (·.1)).Sublist (M.map (·.1)) := by
  unfold keepM
  induction M with
  | nil => exact List.Sublist.refl _
  | cons p r ih =>
    rw [List.filterMap_cons]
    unfold stepM
    split
    · rename_i h
      exact List.Sublist.cons _ ih
    · rename_i q h
      split at h
      · cases h
      · cases h; exact List.Sublist.cons_cons _ ih
theorem keepM_mem {lo hi : Int} {M : List (ByteArray × Int)} {p : ByteArray × Int} (h : p ∈ keepM lo hi M) : ∃ q ∈ M, p.1 = q.1 ∧ lo ≤ q.2 ∧ q.2 ≤ hi ∧ p.2 = q.2 - lo := by
  obtain ⟨q, hq, e⟩ := List.mem_filterMap.1 h
  unfold stepM at e
  split at e
  · cases e
  · cases e; exact ⟨q, hq, rfl, by omega, by omega, rfl⟩

theorem len_all1 {s : Hist} (h : s.Ok) (x : Int) : (s.all1 x).length = s.pos + 1 := by
  have := h.pos
  simp [all1]; omega
theorem ok_push {s : Hist} (h : s.Ok) (x : Int) : (s.push x).Ok := by
  have h1 := h.pos
  have h2 := h.all
  have h3 := h.most
  have hl := len_all1 h x
  refine ⟨?_, ?_, h3, ?_, ?_, ?_, ?_⟩ <;> simp only [push, List.length_drop, hl, gone]
  · omega
  · omega
  · intro p hp
    obtain ⟨q, hq, e1, e2, e3, e4⟩ := keepM_mem hp
    have := h.marks q hq
    omega
  · intro p hp
    obtain ⟨q, hq, e1, _⟩ := keepM_mem hp
    rw [e1]; exact h.names q hq
  · have := (keepM_sub (s.pos + 1 - s.most : Nat) s.pos s.marks).length_le
    simp only [List.length_map] at this
    have := h.count
    omega
  · exact h.nodup.sublist (keepM_sub _ _ _)
theorem ok_goto {s : Hist} (h : s.Ok) {t : Nat} (ht : t ≤ s.all.length) : (s.goto t).Ok := ⟨ht, h.all, h.most, h.marks, h.names, h.count, h.nodup⟩
theorem ok_back {s : Hist} (h : s.Ok) : s.back.Ok := ok_goto h (t := s.pos - 1) (by have := h.pos; omega)
theorem ok_again {s : Hist} (h : s.Ok) (hp : s.pos < s.all.length) : s.again.Ok := ok_goto h (t := s.pos + 1) hp

theorem getM_mem {M : List (ByteArray × Int)} {n : ByteArray} {v : Int} (h : getM M n = some v) : (n, v) ∈ M := by
  unfold getM at h
  cases e : M.find? (fun p => decide (p.1 = n)) with
  | none => rw [e] at h; cases h
  | some p =>
    rw [e] at h
    have h1 := List.find?_some e
    have h2 := List.mem_of_find?_eq_some e
    simp only [decide_eq_true_eq] at h1
    cases h
    rw [← h1]; exact h2
theorem getM_none {M : List (ByteArray × Int)} {n : ByteArray} : getM M n = none ↔ ∀ p ∈ M, p.1 ≠ n := by
  unfold getM
  simp
theorem nodup_pair {M : List (ByteArray × Int)} (hn : (M.map (·.1)).Nodup) {p q : ByteArray × Int} (hp : p ∈ M) (hq : q ∈ M) (h : p.1 = q.1) : p = q := by
  induction M with
  | nil => cases hp
  | cons z r ih =>
    simp only [List.map_cons, List.nodup_cons] at hn
    rcases List.mem_cons.1 hp with rfl | hp' <;> rcases List.mem_cons.1 hq with rfl | hq'
    · rfl
    · exact absurd (List.mem_map.2 ⟨q, hq', h.symm⟩) hn.1
    · exact absurd (List.mem_map.2 ⟨p, hp', h⟩) hn.1
    · exact ih hn.2 hp' hq'
theorem getM_of_mem {M : List (ByteArray × Int)} (hn : (M.map (·.1)).Nodup) {p : ByteArray × Int} (hp : p ∈ M) : getM M p.1 = some p.2 := by
  cases e : getM M p.1 with
  | none => exact absurd rfl (getM_none.1 e p hp)
  | some v =>
    have := nodup_pair hn (getM_mem e) hp rfl
    rw [← this]
theorem setM_len {M : List (ByteArray × Int)} {n : ByteArray} (v : Int) : (setM M n v).length ≤ M.length + (if (getM M n).isNone then 1 else 0) := by
  unfold setM
  rw [List.length_append]
  have h1 := List.length_filter_le (fun p : ByteArray × Int => decide (p.1 ≠ n)) M
  cases e : getM M n with
  | none => simp; simpa using h1
  | some w =>
    have hm := getM_mem e
    have : (M.filter (fun p : ByteArray × Int => decide (p.1 ≠ n))).length < M.length := by
      rcases Nat.lt_or_ge (M.filter (fun p : ByteArray × Int => decide (p.1 ≠ n))).length M.length with h | h
      · exact h
      · have := List.filter_eq_self.1 (List.Sublist.eq_of_length_le List.filter_sublist h) _ hm
        simp at this
    have e2 : (Option.isNone (some w) = true) = False := by simp
    simp only [e2, if_false, List.length_singleton]
    omega
theorem ok_mark {s : Hist} (h : s.Ok) (n : ByteArray) : (s.mark n).Ok := by
  unfold mark
  split
  · rename_i h0
    unfold markE at h0
    have hn : n.size ≤ 20 := by split at h0 <;> omega
    have hc : ¬ ((getM s.marks n).isNone ∧ 16 ≤ s.marks.length) := by
      split at h0
      · omega
      · split at h0
        · omega
        · assumption
    refine ⟨h.pos, h.all, h.most, ?_, ?_, ?_, ?_⟩
    · intro p hp
      rcases List.mem_append.1 hp with hp | hp
      · exact h.marks p (List.mem_filter.1 hp).1
      · obtain rfl : p = (n, (s.pos : Int)) := by simpa using hp
        have := h.pos
        exact ⟨by show (0 : Int) ≤ (s.pos : Int); omega, by show (s.pos : Int) ≤ (s.all.length : Int); omega⟩
    · intro p hp
      rcases List.mem_append.1 hp with hp | hp
      · exact h.names p (List.mem_filter.1 hp).1
      · obtain rfl : p = (n, (s.pos : Int)) := by simpa using hp
        exact hn
    · have h1 := setM_len (M := s.marks) (n := n) (s.pos : Int)
      have h2 := h.count
      show (setM s.marks n s.pos).length ≤ 16
      split at h1
      · rename_i hi
        have : ¬ 16 ≤ s.marks.length := fun h => hc ⟨hi, h⟩
        omega
      · omega
    · show ((setM s.marks n s.pos).map (·.1)).Nodup
      unfold setM
      rw [List.map_append, List.nodup_append]
      refine ⟨h.nodup.sublist (List.filter_sublist.map _), by simp, ?_⟩
      intro a ha b hb
      obtain ⟨x, hx, rfl⟩ := List.mem_map.1 ha
      obtain rfl : b = n := by simpa using hb
      simpa using (List.mem_filter.1 hx).2
  · exact h
end Hist
open Hist

/-! ### in memory -/
def pair (x : Ent) : ByteArray × Int := (x.key, x.val)
structure IsH (w : World) (hb mb : Nat) (s : Hist) (A : Option Addr) (c : Nat) (L : List Ent) (clk : Nat) : Prop where
  blk : w.heap[hb]? = some (.cells #[.int .i64 s.most, .int .i64 s.pos, .slice A s.all.length c, .map (some mb)] 55 (0, 0))
  row : Row w A c s.all
  map : MapB w mb L clk
  perm : (L.map pair).Perm s.marks
  ok : s.Ok
/-- a history in memory -/
def Hs (w : World) (hb mb : Nat) (s : Hist) : Prop := ∃ A c L clk, IsH w hb mb s A c L clk
def SH (hb mb : Nat) : Nat → Prop := fun i => i = hb ∨ i = mb

section
variable {w w' : World} {hb mb : Nat} {s : Hist} {A : Option Addr} {c : Nat} {L : List Ent} {clk : Nat}
theorem IsH.ne (h : IsH w hb mb s A c L clk) : hb ≠ mb := fun e => by have := h.map.blk; rw [← e, h.blk] at this; cases this
theorem IsH.row_ne (h : IsH w hb mb s A c L clk) {b : Nat} {cs : Array Value} {fr : Nat × Nat} (hb' : w.heap[b]? = some (Obj.cells cs 3 fr)) : ¬ SH hb mb b := by
  rintro (rfl | rfl)
  · rw [h.blk] at hb'; cases hb'
  · rw [h.map.blk] at hb'; cases hb'
theorem IsH.c0 (h : IsH w hb mb s A c L clk) : w.cell? ⟨hb, 0, none⟩ = some (.int .i64 s.most) := by rw [cell_of_blk h.blk]; rfl
theorem IsH.c1 (h : IsH w hb mb s A c L clk) : w.cell? ⟨hb, 1, none⟩ = some (.int .i64 s.pos) := by rw [cell_of_blk h.blk]; rfl
theorem IsH.c2 (h : IsH w hb mb s A c L clk) : w.cell? ⟨hb, 2, none⟩ = some (.slice A s.all.length c) := by rw [cell_of_blk h.blk]; rfl
theorem IsH.c3 (h : IsH w hb mb s A c L clk) : w.cell? ⟨hb, 3, none⟩ = some (.map (some mb)) := by rw [cell_of_blk h.blk]; rfl
theorem IsH.fz (h : IsH w hb mb s A c L clk) (i : Nat) : w.frozen? ⟨hb, i, none⟩ = false := frozen_of_blk h.blk i
/-- other blocks may turn -/
theorem IsH.ch {S : Nat → Prop} (h : IsH w hb mb s A c L clk) (k : Ch S w w') (h1 : ¬ S hb) (h2 : ¬ S mb) (h3 : ∀ (b : Nat) (cs : Array Value) (fr : Nat × Nat), w.heap[b]? = some (Obj.cells cs 3 fr) → ¬ S b) : IsH w' hb mb s A c L clk :=
  ⟨k.blk h.blk h1, h.row.ch k h3, h.map.ch k h2, h.perm, h.ok⟩
theorem IsH.ch0 (h : IsH w hb mb s A c L clk) (k : Ch (fun _ => False) w w') : IsH w' hb mb s A c L clk := h.ch k (fun h => h) (fun h => h) (fun _ _ _ _ h => h)
theorem Hs.ch0 (h : Hs w hb mb s) (k : Ch (fun _ => False) w w') : Hs w' hb mb s := by obtain ⟨A, c, L, clk, h⟩ := h; exact ⟨A, c, L, clk, h.ch0 k⟩
theorem IsH.goto (h : IsH w hb mb s A c L clk) {t : Nat} (ht : t ≤ s.all.length) : IsH (w.setCell ⟨hb, 1, none⟩ (.int .i64 t)) hb mb (s.goto t) A c L clk := by
  have k : Ch (· = hb) w (w.setCell ⟨hb, 1, none⟩ (.int .i64 (t : Int))) := (Ch.refl (· = hb) w).setCell ⟨hb, 1, none⟩ (fun _ => rfl) _
  refine ⟨?_, h.row.ch k (fun b cs fr hb' e => h.row_ne hb' (.inl e)), h.map.ch k (fun e => h.ne e.symm), h.perm, ok_goto h.ok ht⟩
  rw [blk_setCell h.blk]
  rfl
theorem IsH.drewN (h : IsH w hb mb s A c L clk) (n : Nat) : IsH (w.drewN n) hb mb s A c L clk := ⟨h.blk, h.row, ⟨h.map.blk, h.map.old, h.map.borns, h.map.keys, h.map.small⟩, h.perm, h.ok⟩
theorem Hs.heap (h : Hs w hb mb s) (e : w'.heap = w.heap) : Hs w' hb mb s := by
  obtain ⟨A, c, L, clk, h⟩ := h
  have k : ∀ i : Nat, w'.heap[i]? = w.heap[i]? := fun i => by rw [e]
  exact ⟨A, c, L, clk, (k _).trans h.blk, h.row.keep (fun b _ _ _ => k b), h.map.keep (k _), h.perm, h.ok⟩
theorem IsH.heap (h : IsH w hb mb s A c L clk) (e : w'.heap = w.heap) : IsH w' hb mb s A c L clk := by
  have k : ∀ i : Nat, w'.heap[i]? = w.heap[i]? := fun i => by rw [e]
  exact ⟨(k _).trans h.blk, h.row.keep (fun b _ _ _ => k b), h.map.keep (k _), h.perm, h.ok⟩
theorem IsH.len (h : IsH w hb mb s A c L clk) : L.length = s.marks.length := by rw [← h.perm.length_eq, List.length_map]
theorem IsH.get (h : IsH w hb mb s A c L clk) (n : ByteArray) : getE L n = getM s.marks n := by
  cases e : getM s.marks n with
  | none =>
    have := getM_none.1 e
    exact getE_none (fun x hx => this (pair x) (h.perm.subset (List.mem_map.2 ⟨x, hx, rfl⟩)))
  | some v =>
    obtain ⟨x, hx, e2⟩ := List.mem_map.1 (h.perm.symm.subset (getM_mem e))
    simp only [pair, Prod.mk.injEq] at e2
    rw [← e2.1, getE_mem h.map.keys hx, e2.2]
end
end Go.Proofs.Ytedpjfanfhhfdaa
