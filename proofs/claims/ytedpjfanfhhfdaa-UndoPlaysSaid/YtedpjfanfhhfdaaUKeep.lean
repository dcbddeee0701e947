/- The walk of keep: the marks outside of a span go, the others are moved. -/
import Derived.Test.YtedpjfanfhhfdaaUCh
import Derived.Lib.Hide
namespace Go.Proofs.Ytedpjfanfhhfdaa
open Go.ChangeMaps Go.MapKept Go.WideShapes Go.RowKit

theorem filterMap_congr' {α β : Type} {f g : α → Option β} {l : List α} (h : ∀ x ∈ l, f x = g x) : l.filterMap f = l.filterMap g := by
  induction l with
  | nil => rfl
  | cons x r ih => rw [List.filterMap_cons, List.filterMap_cons, h x (by simp), ih (fun y hy => h y (by simp [hy]))]

def stepE (lo hi : Int) (x : Ent) : Option Ent := if x.val < lo ∨ hi < x.val then none else some { x with val := x.val - lo }
def midE (lo hi : Int) (seen : Array Nat) (x : Ent) : Option Ent := if seen.contains x.born then stepE lo hi x else some x

theorem left_eq {w : World} {b r : Nat} {L : List Ent} {c : Nat} {seen : Array Nat} (h : MapB w b L c) (hr : w.heap[r]? = some (.mapIter (some b) c seen c)) : w.rangeLeft b r = leftE L seen := by
  simp only [World.rangeLeft, h.blk, hr, leftE]

theorem step_born {lo hi : Int} {seen : Array Nat} {x y : Ent} (h : midE lo hi seen x = some y) : y.born = x.born ∧ y.key = x.key := by
  unfold midE stepE at h
  split at h
  · split at h
    · cases h
    · cases h; exact ⟨rfl, rfl⟩
  · cases h; exact ⟨rfl, rfl⟩

theorem mid_nil (lo hi : Int) (L : List Ent) : L.filterMap (midE lo hi #[]) = L := by
  have : midE lo hi #[] = some := by funext x; simp [midE]
  rw [this, List.filterMap_some]

theorem mid_all {lo hi : Int} {seen : Array Nat} {L0 : List Ent} (h : ∀ x ∈ L0.filterMap (midE lo hi seen), seen.contains x.born = true) :
    L0.filterMap (midE lo hi seen) = L0.filterMap (stepE lo hi) := by
  induction L0 with
  | nil => rfl
  | cons x r ih =>
    have hx : midE lo hi seen x = stepE lo hi x := by
      cases hs : seen.contains x.born with
      | true => unfold midE; rw [if_pos hs]
      | false =>
        have e : midE lo hi seen x = some x := by unfold midE; rw [if_neg (by rw [hs]; simp)]
        have := h x (List.mem_filterMap.2 ⟨x, by simp, e⟩)
        rw [hs] at this; cases this
    rw [List.filterMap_cons, List.filterMap_cons, hx]
    have ih' := ih (fun y hy => h y (by
      obtain ⟨z, hz, e⟩ := List.mem_filterMap.1 hy
      exact List.mem_filterMap.2 ⟨z, List.mem_cons_of_mem _ hz, e⟩))
    cases stepE lo hi x <;> simp [ih']

/-- an entry that has not come yet is the one that was -/
theorem mid_mem {lo hi : Int} {seen : Array Nat} {L0 : List Ent} {x : Ent} (hx : x ∈ L0.filterMap (midE lo hi seen)) (hs : seen.contains x.born = false) : x ∈ L0 := by
  obtain ⟨z, hz, e⟩ := List.mem_filterMap.1 hx
  have hb := (step_born e).1
  unfold midE at e
  rw [← hb, hs] at e
  simp at e
  exact e ▸ hz

theorem push_contains (seen : Array Nat) (n m : Nat) : (seen.push n).contains m = (seen.contains m || m == n) := contains_push seen n m

theorem born_eq {L0 : List Ent} (hb : (L0.map (·.born)).Nodup) {x y : Ent} (hx : x ∈ L0) (hy : y ∈ L0) (h : x.born = y.born) : x = y := by
  induction L0 with
  | nil => cases hx
  | cons z r ih =>
    simp only [List.map_cons, List.nodup_cons] at hb
    rcases List.mem_cons.1 hx with rfl | hx' <;> rcases List.mem_cons.1 hy with rfl | hy'
    · rfl
    · exact absurd (List.mem_map.2 ⟨y, hy', h.symm⟩) hb.1
    · exact absurd (List.mem_map.2 ⟨x, hx', h⟩) hb.1
    · exact ih hb.2 hx' hy'
theorem key_eq {L0 : List Ent} (hb : (L0.map (·.key)).Nodup) {x y : Ent} (hx : x ∈ L0) (hy : y ∈ L0) (h : x.key = y.key) : x = y := by
  induction L0 with
  | nil => cases hx
  | cons z r ih =>
    simp only [List.map_cons, List.nodup_cons] at hb
    rcases List.mem_cons.1 hx with rfl | hx' <;> rcases List.mem_cons.1 hy with rfl | hy'
    · rfl
    · exact absurd (List.mem_map.2 ⟨y, hy', h.symm⟩) hb.1
    · exact absurd (List.mem_map.2 ⟨x, hx', h⟩) hb.1
    · exact ih hb.2 hx' hy'

/-- one entry more has come -/
theorem mid_push {lo hi : Int} {seen : Array Nat} {L0 : List Ent} {x : Ent} (hb : (L0.map (·.born)).Nodup) (hk : (L0.map (·.key)).Nodup) (hx : x ∈ L0) (hs : seen.contains x.born = false) :
    L0.filterMap (midE lo hi (seen.push x.born)) = (L0.filterMap (midE lo hi seen)).filterMap (fun y => if y.key = x.key then stepE lo hi y else some y) := by
  rw [List.filterMap_filterMap]
  refine filterMap_congr' fun y hy => ?_
  by_cases hyx : y = x
  · subst hyx
    have e1 : midE lo hi seen y = some y := by unfold midE; rw [if_neg (by rw [hs]; simp)]
    have e2 : midE lo hi (seen.push y.born) y = stepE lo hi y := by unfold midE; rw [if_pos (by rw [push_contains]; simp)]
    rw [e1, e2]
    simp
  · have hne : y.born ≠ x.born := fun e => hyx (born_eq hb hy hx e)
    have hke : y.key ≠ x.key := fun e => hyx (key_eq hk hy hx e)
    have e1 : midE lo hi (seen.push x.born) y = midE lo hi seen y := by
      unfold midE
      rw [push_contains]
      have : (y.born == x.born) = false := by simpa using hne
      rw [this, Bool.or_false]
    rw [e1]
    cases e : midE lo hi seen y with
    | none => rfl
    | some z =>
      have := (step_born e).2
      simp [this, hke]

theorem push_del {lo hi : Int} {L : List Ent} {x : Ent} (hk : (L.map (·.key)).Nodup) (hx : x ∈ L) (h : x.val < lo ∨ hi < x.val) :
    L.filterMap (fun y => if y.key = x.key then stepE lo hi y else some y) = delE L x.key := by
  unfold delE
  rw [← List.filterMap_eq_filter]
  refine filterMap_congr' fun y hy => ?_
  by_cases hyx : y.key = x.key
  · obtain rfl := key_eq hk hy hx hyx
    simp [stepE, h, Option.guard]
  · simp [hyx, Option.guard]
theorem push_upd {lo hi : Int} {L : List Ent} {c : Nat} {x : Ent} (hk : (L.map (·.key)).Nodup) (hx : x ∈ L) (h : ¬ (x.val < lo ∨ hi < x.val)) :
    L.filterMap (fun y => if y.key = x.key then stepE lo hi y else some y) = putE L c x.key (x.val - lo) := by
  unfold putE
  rw [if_pos (getE_isSome hx rfl), ← List.filterMap_eq_map]
  refine filterMap_congr' fun y hy => ?_
  by_cases hyx : y.key = x.key
  · obtain rfl := key_eq hk hy hx hyx
    simp [stepE, h, upd]
  · simp [hyx, upd]

theorem leftE_len (L : List Ent) (seen : Array Nat) : leftE L seen = (L.filter (fun x => !seen.contains x.born)).length := by
  unfold leftE leftOf
  rw [← Array.length_toList, Array.toList_filter]
  show ((L.map Ent.e).filter _).length = _
  rw [List.filter_map, List.length_map]
  rfl
theorem leftE_del (L : List Ent) (seen : Array Nat) (s : ByteArray) : leftE (delE L s) seen ≤ leftE L seen := by
  rw [leftE_len, leftE_len]
  exact ((List.filter_sublist (l := L)).filter _).length_le
theorem leftE_put {L : List Ent} {x : Ent} (hx : x ∈ L) (seen : Array Nat) (c : Nat) (v : Int) : leftE (putE L c x.key v) seen = leftE L seen := by
  rw [leftE_len, leftE_len]
  unfold putE
  rw [if_pos (getE_isSome hx rfl), List.filter_map, List.length_map]
  have : ((fun x => !seen.contains x.born) ∘ upd x.key v) = fun x => !seen.contains x.born := by
    funext y
    simp only [Function.comp, upd]
    split <;> rfl
  rw [this]

def KeepRel (lo hi : Int) (b c : Nat) (L0 : List Ent) (w wr : World) : Prop :=
  ∃ (seen : Array Nat) (L : List Ent), L = L0.filterMap (midE lo hi seen) ∧ MapB wr b L c ∧ wr.heap[w.heap.size]? = some (.mapIter (some b) c seen c) ∧ Ch (· = b) w wr
theorem keep_del {w w1 : World} {b r c : Nat} {lo hi : Int} {L : List Ent} {x : Ent} {seen : Array Nat} (hm : MapB w1 b L c) (hx : x ∈ L) (h : x.val < lo ∨ hi < x.val) (hit : w1.heap[r]? = some (.mapIter (some b) c seen c)) (hch : Ch (· = b) w w1) :
    MapB (setBlock w1 b (.map ((delE L x.key).map Ent.e).toArray c)) b (L.filterMap (fun y => if y.key = x.key then stepE lo hi y else some y)) c ∧
    (setBlock w1 b (.map ((delE L x.key).map Ent.e).toArray c)).heap[r]? = some (.mapIter (some b) c seen c) ∧ Ch (· = b) w (setBlock w1 b (.map ((delE L x.key).map Ent.e).toArray c)) ∧
    (setBlock w1 b (.map ((delE L x.key).map Ent.e).toArray c)).rangeLeft b r ≤ leftE L seen := by
  have hne : r ≠ b := fun e => by subst e; have := hm.blk; rw [hit] at this; cases this
  have e1 := heap_setBlock_eq w1 b (.map ((delE L x.key).map Ent.e).toArray c) hm.lt
  have e2 := (heap_setBlock_ne w1 b (.map ((delE L x.key).map Ent.e).toArray c) r hne).trans hit
  have hm2 := hm.sub (List.filter_sublist (p := fun y => decide (y.key ≠ x.key))) e1
  rw [push_del hm.keys hx h]
  exact ⟨hm2, e2, hch.setBlock b (fun _ => rfl) _, by rw [left_eq hm2 e2]; exact leftE_del L seen x.key⟩
theorem keep_upd {w w1 : World} {b r c : Nat} {lo hi : Int} {L : List Ent} {x : Ent} {seen : Array Nat} (hm : MapB w1 b L c) (hx : x ∈ L) (h : ¬ (x.val < lo ∨ hi < x.val)) (hit : w1.heap[r]? = some (.mapIter (some b) c seen c)) (hch : Ch (· = b) w w1) :
    MapB (setBlock w1 b (.map ((putE L c x.key (x.val - lo)).map Ent.e).toArray (putC L c x.key))) b (L.filterMap (fun y => if y.key = x.key then stepE lo hi y else some y)) c ∧
    (setBlock w1 b (.map ((putE L c x.key (x.val - lo)).map Ent.e).toArray (putC L c x.key))).heap[r]? = some (.mapIter (some b) c seen c) ∧ Ch (· = b) w (setBlock w1 b (.map ((putE L c x.key (x.val - lo)).map Ent.e).toArray (putC L c x.key))) ∧
    (setBlock w1 b (.map ((putE L c x.key (x.val - lo)).map Ent.e).toArray (putC L c x.key))).rangeLeft b r ≤ leftE L seen := by
  have hne : r ≠ b := fun e => by subst e; have := hm.blk; rw [hit] at this; cases this
  have e1 := heap_setBlock_eq w1 b (.map ((putE L c x.key (x.val - lo)).map Ent.e).toArray (putC L c x.key)) hm.lt
  have e2 := (heap_setBlock_ne w1 b (.map ((putE L c x.key (x.val - lo)).map Ent.e).toArray (putC L c x.key)) r hne).trans hit
  have hm2 := hm.stored (hm.small x hx) (x.val - lo) e1
  have hc : putC L c x.key = c := by unfold putC; rw [if_pos (getE_isSome hx rfl)]
  rw [hc] at hm2
  rw [push_upd (c := c) hm.keys hx h]
  rw [hc] at e2 ⊢
  exact ⟨hm2, e2, hch.setBlock b (fun _ => rfl) _, by rw [left_eq hm2 e2]; exact Nat.le_of_eq (leftE_put hx seen c _)⟩

set_option maxHeartbeats 1000000 in
theorem keep_any (hb b : Nat) (m at_ sl : Value) (lo hi : Int) (L0 : List Ent) (c : Nat) (w : World) (hcell : w.heap[hb]? = some (.cells #[m, at_, sl, .map (some b)] 55 (0, 0))) (hm : MapB w b L0 c)
    (hlo : 0 ≤ lo) (hlo2 : lo ≤ 1000) (hv : ∀ x ∈ L0, 0 ≤ x.val ∧ x.val ≤ 1000) :
    Calls Try.prog 25 #[.pointer (some ⟨hb, 0, none⟩), .int .i64 lo, .int .i64 hi] w fun e w' => e = .returned (.tuple #[]) ∧ MapB w' b (L0.filterMap (stepE lo hi)) c ∧ Ch (· = b) w w' := by
  have hc3 : w.cell? ⟨hb, 3, none⟩ = some (.map (some b)) := by rw [cell_of_blk hcell]; rfl
  have hrange := run_range_map (P := Try.prog) w 53 9 3 b _ c Try.underlying53 hm.blk
  have hlt := hm.lt
  have hltb := blk_size hcell
  have hne : hb ≠ b := fun e => by subst e; have := hm.blk; rw [hcell] at this; cases this
  go_enter Try.func25, Try.ntmps25
  go_wp2
  clear hrange hc3
  go_loopw [6] (fun _ wr => KeepRel lo hi b c L0 w wr)
    (fun _ wr => wr.rangeLeft b w.heap.size)
  case atStart =>
    exact ⟨#[], L0, (mid_nil _ _ _).symm, hm.ch ((Ch.refl (fun _ => False) w).alloc _) (fun h => h), (MapKept.heap_alloc w _).1, (Ch.refl _ _).alloc _⟩
  case round =>
    obtain ⟨seen, L, hL, hmr, hit, hch⟩ := hrel
    rcases hmr.next hit 0 with ⟨hall, hrun⟩ | ⟨x, hx, hs, w1, hrun, hent, hit1, hch1, hlt1⟩
    · rw [hL] at hall
      have H := Lib.hid hL
      clear hL
      go_wp2
      go_end0
      exact ⟨rfl, by rw [← mid_all hall, ← H.out]; exact hmr, hch⟩
    · have hx0 : x ∈ L0 := mid_mem (hL ▸ hx) hs
      have hle : (wr.rangeLeft b w.heap.size) = leftE L seen := left_eq hmr hit
      have hw : x.key.size ≤ maxLen := hmr.small x hx
      have hm1 : MapB w1 b L c := hmr.ch hch1 (by omega)
      have hch2 : Ch (· = b) w w1 := hch.trans' hch1 (fun _ h => h) (fun i hi e => by omega)
      have hcell1 : w1.heap[hb]? = some (.cells #[m, at_, sl, .map (some b)] 55 (0, 0)) := hch2.blk hcell hne
      have hc3 : w1.cell? ⟨hb, 3, none⟩ = some (.map (some b)) := by rw [cell_of_blk hcell1]; rfl
      have hpush := mid_push (lo := lo) (hi := hi) hm.borns hm.keys hx0 hs
      have hxv := hv x hx0
      rw [← hL] at hpush
      have HP := Lib.hid hpush
      have HL := Lib.hid hle
      have HX := Lib.hid hlt1
      have Hs := Lib.hid hs
      clear hpush hle hlt1 hL hit hs hx0
      by_cases h1 : x.val < lo
      · have hdel := push_del (lo := lo) (hi := hi) hm1.keys hx (.inl h1)
        have HD := Lib.hid hdel
        clear hdel
        have F := keep_del (lo := lo) (hi := hi) hm1 hx (.inl h1) hit1 hch2
        have HF := Lib.hid F
        clear F hit1
        go_wp2_with (at_delete; refine wpList_drop rfl rfl _ _ rfl hm1 hw rfl rfl ?_)
        go_roundw
        case rel => exact ⟨seen.push x.born, _, HP.out.symm, HF.out.1, HF.out.2.1, HF.out.2.2.1⟩
        case measure => rw [HL.out]; exact Nat.lt_of_le_of_lt HF.out.2.2.2 HX.out
      · by_cases h2 : hi < x.val
        · have F := keep_del (lo := lo) (hi := hi) hm1 hx (.inr h2) hit1 hch2
          have HF := Lib.hid F
          clear F hit1
          go_wp2_with (at_delete; refine wpList_drop rfl rfl _ _ rfl hm1 hw rfl rfl ?_)
          go_roundw
          case rel => exact ⟨seen.push x.born, _, HP.out.symm, HF.out.1, HF.out.2.1, HF.out.2.2.1⟩
          case measure => rw [HL.out]; exact Nat.lt_of_le_of_lt HF.out.2.2.2 HX.out
        · have F := keep_upd (lo := lo) (hi := hi) hm1 hx (by omega) hit1 hch2
          have HF := Lib.hid F
          clear F hit1
          go_wp2_with (at_mapUpdate; refine wpList_store rfl rfl _ _ _ rfl (x.val - lo) hm1 hw rfl rfl rfl ?_)
          go_roundw
          case rel => exact ⟨seen.push x.born, _, HP.out.symm, HF.out.1, HF.out.2.1, HF.out.2.2.1⟩
          case measure => rw [HL.out]; exact Nat.lt_of_le_of_lt HF.out.2.2.2 HX.out
end Go.Proofs.Ytedpjfanfhhfdaa
