/- The walk of Mark. -/
import Derived.Test.YtedpjfanfhhfdaaUWalk3
import Derived.Lib.Strings
namespace Go.Proofs.Ytedpjfanfhhfdaa
open Go.ChangeMaps Go.MapKept Go.WideShapes Go.RowKit Hist

set_option maxRecDepth 100000 in
set_option maxHeartbeats 400000 in
theorem mark_bad (hb mb : Nat) (n : ByteArray) (w : World) (h3 : w.cell? ⟨hb, 3, none⟩ = some (.map (some mb))) (hn : n.size = 0 ∨ 20 < n.size) :
    Calls Try.prog 21 #[.pointer (some ⟨hb, 0, none⟩), .string n] w fun e w' => e = .returned (.int .i64 2) ∧ w' = w := by
  rcases hn with hn | hn
  · obtain rfl : n = ⟨#[]⟩ := by
      cases n with | mk d => exact congrArg ByteArray.mk (Array.eq_empty_of_size_eq_zero hn)
    go_enter Try.func21, Try.ntmps21
    go_wp2_with (go_at_call 23; refine (made_any hb mb _ h3).mono ?_; rintro e w' ⟨rfl, rfl⟩)
    go_ret
    exact ⟨rfl, rfl⟩
  · go_enter Try.func21, Try.ntmps21
    go_wp2_with (go_at_call 23; refine (made_any hb mb _ h3).mono ?_; rintro e w' ⟨rfl, rfl⟩)
    all_goals go_ret
    all_goals exact ⟨rfl, rfl⟩

theorem len_map {w : World} {b : Nat} {es : Array MapEntry} {clk : Nat} {ty : TypeId} (hb : w.heap[b]? = some (.map es clk)) : (Builtin.len_ #[53] ty #[.map (some b)]).run Try.prog w = .ok (.int .i64 (es.size : Int)) w := by
  simp [Builtin.len_, run_underlying Try.underlying53, MapKept.run_getObj_map hb, goInt]

theorem toList_ne {n : ByteArray} (h : n.size ≠ 0) : n.toList.isEmpty = false := by
  rw [Lib.toList_data]
  cases e : n.data.toList with
  | nil => exact absurd (by have := congrArg List.length e; simpa using this) h
  | cons _ _ => rfl

set_option maxRecDepth 100000 in
set_option maxHeartbeats 400000 in
theorem mark_full (hb mb : Nat) (n : ByteArray) (v : Int) (es : Array MapEntry) (clk : Nat) (w : World) (h3 : w.cell? ⟨hb, 3, none⟩ = some (.map (some mb))) (hblk : w.heap[mb]? = some (.map es clk))
    (hlk : (Instr.lookup 53 (.map (some mb)) (.string n) true).run Try.prog w = .ok (.tuple #[.int .i64 v, .bool false]) w) (hn : n.size ≠ 0) (hn2 : n.size ≤ 20) (hes : 16 ≤ (es.size : Int)) :
    Calls Try.prog 21 #[.pointer (some ⟨hb, 0, none⟩), .string n] w fun e w' => e = .returned (.int .i64 7) ∧ w' = w := by
  have hE := toList_ne hn
  have hE2 : ¬ n.toList = [] := by intro e; rw [e] at hE; cases hE
  have hlen := fun ty => len_map (ty := ty) hblk
  obtain ⟨N, hN⟩ : ∃ N : Int, N = es.size := ⟨_, rfl⟩
  rw [← hN] at hlen hes
  clear hblk hN
  go_enter Try.func21, Try.ntmps21
  go_wp2_with (go_at_call 23; refine (made_any hb mb _ h3).mono ?_; rintro e w' ⟨rfl, rfl⟩)
  go_ret
  exact ⟨rfl, rfl⟩

set_option maxRecDepth 100000 in
set_option maxHeartbeats 400000 in
theorem mark_new (hb mb : Nat) (n : ByteArray) (v : Int) (ok : Bool) (L : List Ent) (clk pos : Nat) (w : World) (h1 : w.cell? ⟨hb, 1, none⟩ = some (.int .i64 pos)) (h3 : w.cell? ⟨hb, 3, none⟩ = some (.map (some mb))) (hm : MapB w mb L clk)
    (hlk : (Instr.lookup 53 (.map (some mb)) (.string n) true).run Try.prog w = .ok (.tuple #[.int .i64 v, .bool ok]) w) (hn : n.size ≠ 0) (hn2 : n.size ≤ 20) (hes : ok = false → L.length < 16) :
    Calls Try.prog 21 #[.pointer (some ⟨hb, 0, none⟩), .string n] w fun e w' => e = .returned (.int .i64 0) ∧ w' = setBlock w.drew mb (.map ((putE L clk n pos).map Ent.e).toArray (putC L clk n)) := by
  have hE := toList_ne hn
  have hE2 : ¬ n.toList = [] := by intro e; rw [e] at hE; cases hE
  have hw : n.size ≤ maxLen := by unfold maxLen; omega
  have hmd : MapB w.drew mb L clk := ⟨hm.blk, hm.old, hm.borns, hm.keys, hm.small⟩
  have HM := Lib.hid hmd
  cases ok with
  | true =>
    clear hes hm hmd
    go_enter Try.func21, Try.ntmps21
    go_wp2_with (go_at_call 23; refine (made_any hb mb _ h3).mono ?_; rintro e w' ⟨rfl, rfl⟩)
    go_still_tail 9, (by kernel_rfl)
    change wpList _ _ _ _ _ w.drew
    go_wp2_with (at_mapUpdate; refine wpList_store rfl rfl _ _ _ rfl (pos : Int) HM.out hw rfl rfl rfl ?_)
    go_ret
    exact ⟨rfl, rfl⟩
  | false =>
    have hl := hes rfl
    have hlen := fun ty => len_map (ty := ty) hm.blk
    obtain ⟨N, hN⟩ : ∃ N : Int, N = ((L.map Ent.e).toArray.size : Int) := ⟨_, rfl⟩
    rw [← hN] at hlen
    have hes2 : N < 16 := by rw [hN]; simp; omega
    clear hes hm hmd hl hN
    go_enter Try.func21, Try.ntmps21
    go_wp2_with (go_at_call 23; refine (made_any hb mb _ h3).mono ?_; rintro e w' ⟨rfl, rfl⟩)
    clear hlen
    go_still_tail 9, (by kernel_rfl)
    change wpList _ _ _ _ _ w.drew
    go_wp2_with (at_mapUpdate; refine wpList_store rfl rfl _ _ _ rfl (pos : Int) HM.out hw rfl rfl rfl ?_)
    go_ret
    exact ⟨rfl, rfl⟩

theorem mark_any (hb mb : Nat) (s : Hist) (n : ByteArray) (w : World) (h : Hs w hb mb s) (hw : n.size ≤ maxLen) :
    Calls Try.prog 21 #[.pointer (some ⟨hb, 0, none⟩), .string n] w fun e w' => e = .returned (.int .i64 (s.markE n)) ∧ Hs w' hb mb (s.mark n) ∧ Ch (SH hb mb) w w' := by
  have hH := h
  obtain ⟨A, c, L, clk, h⟩ := h
  by_cases hn : n.size = 0 ∨ 20 < n.size
  · have e1 : s.markE n = 2 := by unfold Hist.markE; rw [if_pos hn]
    have e2 : s.mark n = s := by unfold Hist.mark; rw [e1, if_neg (by omega)]
    rw [e1, e2]
    refine (mark_bad hb mb n w h.c3 hn).mono ?_
    rintro e w' ⟨rfl, rfl⟩
    exact ⟨rfl, hH, Ch.refl _ _⟩
  · have hlk := h.map.look hw
    rw [h.get] at hlk
    by_cases hf : (getM s.marks n).isNone ∧ 16 ≤ s.marks.length
    · have e1 : s.markE n = 7 := by unfold Hist.markE; rw [if_neg hn, if_pos hf]
      have e2 : s.mark n = s := by unfold Hist.mark; rw [e1, if_neg (by omega)]
      rw [e1, e2]
      have e3 : (getM s.marks n).isSome = false := by
        cases e : getM s.marks n with
        | none => rfl
        | some v => rw [e] at hf; cases hf.1
      rw [e3] at hlk
      have hl := h.len
      refine (mark_full hb mb n _ _ clk w h.c3 h.map.blk hlk (by omega) (by omega) (by simp; omega)).mono ?_
      rintro e w' ⟨rfl, rfl⟩
      exact ⟨rfl, hH, Ch.refl _ _⟩
    · have e1 : s.markE n = 0 := by unfold Hist.markE; rw [if_neg hn, if_neg hf]
      have e2 : s.mark n = { s with marks := setM s.marks n s.pos } := by unfold Hist.mark; rw [e1, if_pos rfl]
      have ho := ok_mark h.ok n
      rw [e2] at ho
      rw [e1, e2]
      refine (mark_new hb mb n _ _ L clk s.pos w h.c1 h.c3 h.map hlk (by omega) (by omega) (fun e => ?_)).mono ?_
      · have : (getM s.marks n).isNone = true := by
          cases e3 : getM s.marks n with
          | none => rfl
          | some v => rw [e3] at e; cases e
        have hl := h.len
        have : ¬ 16 ≤ s.marks.length := fun h => hf ⟨this, h⟩
        omega
      · rintro e w' ⟨rfl, rfl⟩
        have k : Ch (· = mb) w (setBlock w.drew mb (.map ((putE L clk n s.pos).map Ent.e).toArray (putC L clk n))) := (Ch.refl (· = mb) w).drew.setBlock mb (fun _ => rfl) _
        refine ⟨rfl, ⟨A, c, putE L clk n s.pos, putC L clk n, k.blk h.blk h.ne, h.row.ch k (fun b cs fr hb' e => h.row_ne hb' (.inr e)), ?_, setM_perm h.perm h.map.keys clk n s.pos, ho⟩, k.mono (fun _ _ e => .inr e)⟩
        exact h.map.stored hw _ (heap_setBlock_eq _ _ _ h.map.lt)
end Go.Proofs.Ytedpjfanfhhfdaa
