/- The walk of the closure by which marks are put in order. -/
import Derived.Test.YtedpjfanfhhfdaaUCmp
import Derived.StillTailTactics
namespace Go.Proofs.Ytedpjfanfhhfdaa
open Go.ChangeMaps Go.MapKept Go.WideShapes Go.RowKit Hist

theorem MapB.look1 {w : World} {b : Nat} {L : List Ent} {c : Nat} (h : MapB w b L c) {s : ByteArray} (hs : s.size ≤ maxLen) :
    (Instr.lookup 53 (.map (some b)) (.string s) false).run Try.prog w = .ok (.int .i64 ((getE L s).getD 0)) w := by
  have hc := K9.check w (L.map Ent.e).toArray.isEmpty (key_lit hs)
  simp at hc
  rcases find_split w hs h.small with ⟨h1, h2⟩ | ⟨j, x, h1, h2, rfl⟩
  · rw [getE_none h2]
    simp [Instr.lookup, run_underlying Try.underlying53, MapKept.run_getObj_map h.blk, hc, h1, Result.andThen]
  · rw [getE_mem h.keys (List.mem_of_getElem? h2)]
    simp [Instr.lookup, run_underlying Try.underlying53, MapKept.run_getObj_map h.blk, hc, h1, Result.andThen]

def closV (L : List Ent) (a b : ByteArray) : Int := orI (cmpI ((getE L a).getD 0) ((getE L b).getD 0)) (cmpL a.data.toList b.data.toList)

set_option maxRecDepth 100000 in
set_option maxHeartbeats 1000000 in
theorem clos_any (pb hb mb : Nat) (a b : ByteArray) (L : List Ent) (clk : Nat) (w : World) (hp : w.cell? ⟨pb, 0, none⟩ = some (.pointer (some ⟨hb, 0, none⟩))) (h3 : w.cell? ⟨hb, 3, none⟩ = some (.map (some mb)))
    (hm : MapB w mb L clk) (ha : a.size ≤ maxLen) (hb2 : b.size ≤ maxLen) :
    Calls Try.prog 33 #[.string a, .string b, .pointer (some ⟨pb, 0, none⟩)] w fun e w' => e = .returned (.int .i64 (closV L a b)) ∧ ∃ x y : Int, w' = w.drew.alloc (.cells #[.int .i64 x, .int .i64 y] 3) := by
  have hmd : MapB w.drew mb L clk := ⟨hm.blk, hm.old, hm.borns, hm.keys, hm.small⟩
  have l1 := hmd.look1 ha
  have l2 := hmd.look1 hb2
  obtain ⟨x, hx⟩ : ∃ x, x = (getE L a).getD 0 := ⟨_, rfl⟩
  obtain ⟨y, hy⟩ : ∃ y, y = (getE L b).getD 0 := ⟨_, rfl⟩
  unfold closV
  rw [← hx, ← hy]
  rw [← hx] at l1
  rw [← hy] at l2
  clear hm hmd hx hy
  obtain ⟨r1, hr1⟩ : ∃ r, r = cmpI x y := ⟨_, rfl⟩
  obtain ⟨r2, hr2⟩ : ∃ r, r = cmpL a.data.toList b.data.toList := ⟨_, rfl⟩
  have k1 := compare_int x y w.drew
  have k2 := compare_str a b w.drew
  rw [← hr1, ← hr2]
  rw [← hr1] at k1
  rw [← hr2] at k2
  have K1 := Lib.hid k1
  have K2 := Lib.hid k2
  clear k1 k2 hr1 hr2
  go_enter Try.func33, Try.ntmps33
  go_wp2
  refine wp_region_still_tail 16 (by kernel_rfl) (by kernel_rfl) ?_
  simp only [List.take_succ_cons, List.take_zero, List.drop_succ_cons, List.drop_zero]
  repeat still_step
  still_call K1.out
  repeat still_step
  still_call K2.out
  refine wpStill_nil ?_
  change wpList _ _ _ _ _ w.drew
  have c0 : (w.alloc (.cells #[.int .i64 r1, .int .i64 r2] 3)).drew.cell? ⟨w.heap.size, 0, none⟩ = some (.int .i64 r1) := by
    show (w.alloc (.cells #[.int .i64 r1, .int .i64 r2] 3)).cell? ⟨w.heap.size, 0, none⟩ = _
    rw [cell_of_blk (MapKept.heap_alloc w _).1]; rfl
  have c1 : (w.alloc (.cells #[.int .i64 r1, .int .i64 r2] 3)).drew.cell? ⟨w.heap.size, 1, none⟩ = some (.int .i64 r2) := by
    show (w.alloc (.cells #[.int .i64 r1, .int .i64 r2] 3)).cell? ⟨w.heap.size, 1, none⟩ = _
    rw [cell_of_blk (MapKept.heap_alloc w _).1]; rfl
  have KO := Lib.hid (or_two w.heap.size r1 r2 _ c0 c1)
  clear c0 c1
  go_wp2_with (go_at_call 34; refine KO.out.mono ?_; rintro e w' ⟨rfl, rfl⟩)
  go_ret
  exact ⟨rfl, r1, r2, rfl⟩
end Go.Proofs.Ytedpjfanfhhfdaa
