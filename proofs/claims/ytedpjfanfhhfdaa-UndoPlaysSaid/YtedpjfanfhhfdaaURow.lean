/- A slice of whole numbers as it is read, and what cutting, cloning and appending make of it. -/
import Derived.Test.YtedpjfanfhhfdaaUCh
import Derived.Lib.Hide
import Derived.Lib.SliceRun
import Derived.ArgAppend
namespace Go.Proofs.Ytedpjfanfhhfdaa
open Go.ChangeMaps Go.MapKept Go.WideShapes Go.RowKit

/-- a slice of whole numbers at address A, of capacity c, that reads as xs -/
def Row (w : World) (A : Option Addr) (c : Nat) (xs : List Int) : Prop :=
  xs.length ≤ c ∧ (A = none → c = 0) ∧ c ≤ 9223372036854775807 ∧
  (xs ≠ [] → ∃ b off cs fr, A = some ⟨b, off, none⟩ ∧ w.heap[b]? = some (.cells cs 3 fr) ∧ ∀ j, j < xs.length → cs[off + j]? = some (.int .i64 (xs.getD j 0)))

theorem Row.nil (w : World) : Row w none 0 [] := ⟨Nat.le_refl _, fun _ => rfl, by omega, fun h => absurd rfl h⟩
theorem Row.keep {w w' : World} {A : Option Addr} {c : Nat} {xs : List Int} (h : Row w A c xs) (hk : ∀ (b : Nat) (cs : Array Value) (fr : Nat × Nat), w.heap[b]? = some (Obj.cells cs 3 fr) → w'.heap[b]? = w.heap[b]?) : Row w' A c xs :=
  ⟨h.1, h.2.1, h.2.2.1, fun hx => by
    obtain ⟨b, off, cs, fr, e, hb, hc⟩ := h.2.2.2 hx
    exact ⟨b, off, cs, fr, e, (hk b cs fr hb).trans hb, hc⟩⟩
theorem Row.ch {S : Nat → Prop} {w w' : World} {A : Option Addr} {c : Nat} {xs : List Int} (h : Row w A c xs) (k : Ch S w w') (hk : ∀ (b : Nat) (cs : Array Value) (fr : Nat × Nat), w.heap[b]? = some (Obj.cells cs 3 fr) → ¬ S b) : Row w' A c xs :=
  h.keep fun b cs fr hb => k.block b (blk_size hb) (hk b cs fr hb)
theorem Row.ch0 {w w' : World} {A : Option Addr} {c : Nat} {xs : List Int} (h : Row w A c xs) (k : Ch (fun _ => False) w w') : Row w' A c xs := h.ch k (fun _ _ _ _ h => h)
/-- element i -/
theorem Row.at_ {w : World} {A : Option Addr} {c : Nat} {xs : List Int} (h : Row w A c xs) {i : Nat} (hi : i < xs.length) : ∃ b off, A = some ⟨b, off, none⟩ ∧ w.cell? ⟨b, off + i, none⟩ = some (.int .i64 (xs.getD i 0)) := by
  obtain ⟨b, off, cs, fr, e, hb, hc⟩ := h.2.2.2 (by intro e; subst e; simp at hi)
  exact ⟨b, off, e, by rw [cell_of_blk hb]; exact hc i hi⟩

def cutA (A : Option Addr) (c k : Nat) : Option Addr := if c = k then A else A.map (·.add k)
theorem elem26 : Try.prog.elem 26 = 3 := by simp [Program.elem, Try.underlying26]
theorem und26 : Try.prog.underlying 26 = some (.slice (Try.prog.elem 26)) := by rw [elem26]; exact Try.underlying26
theorem size3 (W : World) : (sizeOf 3).run Try.prog W = .ok 1 W := by kernel_rfl

theorem cut_h (A : Option Addr) (n c k : Nat) (hk : k ≤ c) (W : World) : (Instr.slice 26 (.slice A n c) none (some (.int .i64 (k : Int))) none).run Try.prog W = .ok (.slice A k c) W := by
  rw [run_slice_h W 26 A n c und26 .i64 (k : Int) (by omega) (by omega), elem26, size3]
  cases A <;> simp [sliced, Result.andThen, Addr.add]
theorem cut_hm (A : Option Addr) (n c k : Nat) (hk : k ≤ c) (W : World) : (Instr.slice 26 (.slice A n c) none (some (.int .i64 (k : Int))) (some (.int .i64 (k : Int)))).run Try.prog W = .ok (.slice A k k) W := by
  rw [run_slice_hm W 26 A n c und26 .i64 .i64 (k : Int) (k : Int) (by omega) (by omega) (by omega), elem26, size3]
  cases A <;> simp [sliced, Result.andThen, Addr.add]
theorem cut_l (A : Option Addr) (n c k : Nat) (hk : k ≤ n) (W : World) : (Instr.slice 26 (.slice A n c) (some (.int .i64 (k : Int))) none none).run Try.prog W = .ok (.slice (cutA A c k) (n - k) (c - k)) W := by
  rw [run_slice_l W 26 A n c und26 .i64 (k : Int) (by omega) (by omega), elem26, size3]
  simp [sliced, Result.andThen, cutA]

theorem Row.take {w : World} {A : Option Addr} {c : Nat} {xs : List Int} (h : Row w A c xs) (k : Nat) : Row w A c (xs.take k) := by
  refine ⟨by have := h.1; rw [List.length_take]; omega, h.2.1, h.2.2.1, fun hx => ?_⟩
  obtain ⟨b, off, cs, fr, e, hb, hc⟩ := h.2.2.2 (by intro e; subst e; simp at hx)
  refine ⟨b, off, cs, fr, e, hb, fun j hj => ?_⟩
  rw [List.length_take] at hj
  rw [hc j (by omega), List.getD_eq_getElem?_getD, List.getD_eq_getElem?_getD, List.getElem?_take_of_lt (by omega)]
theorem Row.takeCap {w : World} {A : Option Addr} {c : Nat} {xs : List Int} (h : Row w A c xs) {k : Nat} (hk : k ≤ xs.length) : Row w A k (xs.take k) := by
  obtain ⟨h1, h2, h3, h4⟩ := h.take k
  have := h.1
  exact ⟨by rw [List.length_take]; omega, fun e => by have := h2 e; omega, by omega, h4⟩
theorem Row.drop {w : World} {A : Option Addr} {c : Nat} {xs : List Int} (h : Row w A c xs) {k : Nat} (hk : k ≤ xs.length) : Row w (cutA A c k) (c - k) (xs.drop k) := by
  have h1 := h.1
  refine ⟨by rw [List.length_drop]; omega, fun e => ?_, by have := h.2.2.1; omega, fun hx => ?_⟩
  · unfold cutA at e
    split at e
    · omega
    · cases A with
      | none => have := h.2.1 rfl; omega
      | some a => cases e
  · have hl : k < xs.length := by
      have := List.length_pos_iff.2 hx
      rw [List.length_drop] at this; omega
    obtain ⟨b, off, cs, fr, e, hb, hc⟩ := h.2.2.2 (by intro e; subst e; simp at hl)
    subst e
    refine ⟨b, off + k, cs, fr, ?_, hb, fun j hj => ?_⟩
    · unfold cutA
      rw [if_neg (by omega)]
      unfold Addr.add
      by_cases hk0 : k = 0 <;> simp [hk0]
    · rw [List.length_drop] at hj
      rw [Nat.add_assoc, hc (k + j) (by omega), List.getD_eq_getElem?_getD, List.getD_eq_getElem?_getD, List.getElem?_drop]

/-- what a row's cells hold, as the laws on append ask it -/
theorem Row.cells {w : World} {A : Option Addr} {c : Nat} {xs : List Int} (h : Row w A c xs) {ad : Addr} (e : A = some ad) : ∀ (j : Nat) (u : Value), (xs.map (Value.int .i64))[j]? = some u → w.cell? (ad.add j) = some u := by
  intro j u hu
  have hj : j < xs.length := by simpa using (List.getElem?_eq_some_iff.1 hu).1
  obtain ⟨b, off, cs, fr, e', hb, hc⟩ := h.2.2.2 (by intro e; subst e; simp at hj)
  rw [e] at e'
  cases e'
  have e1 : (⟨b, off, none⟩ : Addr).add j = ⟨b, off + j, none⟩ := by unfold Addr.add; by_cases h0 : j = 0 <;> simp [h0]
  rw [e1, cell_of_blk hb, hc j hj]
  rw [List.getElem?_map, List.getElem?_eq_getElem hj] at hu
  rw [List.getD_eq_getElem?_getD, List.getElem?_eq_getElem hj]
  simpa using hu

/-- out of the laws on append: a row of the call's own -/
theorem Row.of_own {w : World} {base n : Nat} {v : Value} {xs : List Int} (h : w.ownsRow base 3 1 v n (xs.map (Value.int .i64))) : ∃ A c, v = .slice A xs.length c ∧ Row w A c xs := by
  obtain ⟨hl, h⟩ := h
  simp only [List.length_map, Nat.mul_one] at hl
  subst hl
  rcases h with ⟨rfl, h0⟩ | ⟨g, cap, cur, rfl, hb, hblk, hn, hc, hs, hx⟩
  · obtain rfl : xs = [] := List.eq_nil_of_length_eq_zero h0
    exact ⟨none, 0, rfl, Row.nil w⟩
  · refine ⟨_, _, rfl, hn, (fun e => by cases e), (by unfold maxLen at hc; exact hc), fun _ => ⟨g, 0, cur, _, rfl, hblk, fun j hj => ?_⟩⟩
    rw [Nat.zero_add, ← Array.getElem?_toList]
    have : (cur.toList.take (xs.length * 1))[j]? = (xs.map (Value.int .i64))[j]? := by rw [hx]
    rw [Nat.mul_one, List.getElem?_take_of_lt hj, List.getElem?_map, List.getElem?_eq_getElem hj] at this
    rw [this, List.getD_eq_getElem?_getD, List.getElem?_eq_getElem hj]
    rfl

theorem ch_grown {a b : World} (h : a.grownBy b none) : Ch (fun _ => False) a b := ⟨h.os, h.tape, h.output, h.size, fun i hi _ => h.block i hi (by simp)⟩
theorem ch_grown' {S : Nat → Prop} {a b : World} {row : Option Nat} (h : a.grownBy b row) (hr : ∀ k, row = some k → k < a.heap.size → S k) : Ch S a b := ⟨h.os, h.tape, h.output, h.size, fun i hi hs => h.block i hi (fun e => hs (hr i e.symm hi))⟩

theorem info3 : (Try.prog.info? 3).map (fun i => (i.zero, i.size, i.bytes)) = some (some (.int .i64 0), 1, 8) := by kernel_rfl

set_option maxHeartbeats 1000000 in
theorem clone_any (A : Option Addr) (c : Nat) (xs : List Int) (w : World) (h : Row w A c xs) (hbig : xs.length ≤ 1000000) :
    Calls Try.prog 24 #[.slice A xs.length c] w fun e w' => ∃ A' c', e = .returned (.slice A' xs.length c') ∧ Row w' A' c' xs ∧ Ch (fun _ => False) w w' := by
  have q26 : ∀ (w : World) (a : Option Addr) (n c n' c' : Nat), (binOp .eql 26 (.slice a n c) (.slice none n' c')).run Try.prog w = .ok (.bool a.isNone) w := fun w a n c n' c' => Lib.run_eql_slice_nil w _ _ a n c n' c' Try.underlying26
  obtain ⟨i0, hi, hz0, hz1, hz2⟩ := info_parts info3
  cases A with
  | none =>
    have hc0 := h.2.1 rfl
    obtain rfl : xs = [] := List.eq_nil_of_length_eq_zero (by have := h.1; omega)
    have H := Lib.hid h
    clear h
    go_enter Try.func24, Try.ntmps24
    go_wp2
    go_ret
    exact ⟨none, 0, rfl, Row.nil _, Ch.refl _ _⟩
  | some ad =>
    have hcl := h.cells rfl
    have H := Lib.hid h
    have HC := Lib.hid hcl
    clear h hcl
    go_enter Try.func24, Try.ntmps24
    go_wp2_with (at_builtin; refine wpList_append_own _ rfl _ _ 26 rfl w.heap.size 3 i0 (.int .i64 0) 1 8 Try.underlying26 hi hz0 hz1 hz2 rfl (by decide) _ _ _ rfl (World.ownsRow_made w #[] 0 (Nat.le_refl _) (Nat.zero_le _) rfl) ad xs.length c (xs.map (Value.int .i64)) rfl ?qc1 ?qc2 ?qc3 ?qc4 ?qc5 ?qc6 ?_)
    case qc1 => simp
    case qc2 =>
      intro j u hj
      exact Lib.cell?_alloc_some _ (HC.out j u hj)
    case qc3 => intro u hu; obtain ⟨x, _, rfl⟩ := List.mem_map.1 hu; rfl
    case qc4 => unfold maxLen; omega
    case qc5 => omega
    case qc6 => simp
    intro v' w1 hown hgrow hnil
    try rw [List.nil_append] at hown
    obtain ⟨A', c', rfl, hrow⟩ := Row.of_own hown
    have HR := Lib.hid hrow
    clear hown hnil hrow
    go_wp2
    go_ret
    exact ⟨A', c', rfl, HR.out, ((Ch.refl _ w).alloc _).trans' (T := fun i => i = w.heap.size) (ch_grown' hgrow (fun k hk _ => by simp [Value.ownBlock] at hk; exact hk.symm)) (fun _ h => h) (fun i hi e => by omega)⟩

end Go.Proofs.Ytedpjfanfhhfdaa
