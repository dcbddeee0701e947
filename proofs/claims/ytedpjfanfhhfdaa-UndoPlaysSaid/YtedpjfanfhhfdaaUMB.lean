/- The reference's New, Push, Mark and To. -/
import Derived.Test.YtedpjfanfhhfdaaUMA
import Derived.Test.YtedpjfanfhhfdaaRefPush
/- The reference's New and Push, told of a history. -/
namespace Go.Proofs.Ytedpjfanfhhfdaa
open Go.ChangeMaps Go.MapKept Go.WideShapes Go.RowKit Hist
open PUndoPlays
open Go.Proofs.YtedpjfanfhhfdaaW.PrintWords Go.Proofs.YtedpjfanfhhfdaaW.PrintLast Go.Proofs.YtedpjfanfhhfdaaW.PrintMore

theorem rowM_of_R {w : World} {base : Nat} {ok : Nat → Prop} {v : Value} {M : List (ByteArray × Int)} (h : k71.R 71 w base ok v (M.map mk71)) : ∃ A c, v = .slice A M.length c ∧ RowM w A c M ∧ (∀ ad, A = some ad → base ≤ ad.block ∧ ad.block < w.heap.size) := by
  obtain ⟨A, c, rfl, hl, hr⟩ := Kd.R_reads h
  obtain ⟨inner, ho⟩ := Kd.R_own h
  rw [List.length_map] at hl hr ho ⊢
  refine ⟨A, c, rfl, ⟨hr, hl⟩, fun ad e => ?_⟩
  subst e
  exact ⟨own_base ho ad.block rfl, own_lt ho ad.block rfl⟩

theorem mnew (most : Int) (w : World) : Calls Try.prog 13 #[.int .i64 most] w fun e w' => ∃ v', e = .returned v' ∧ HasM w' (w.heap.size ≤ ·) (Hist.new most) v' ∧ Ch (fun _ => False) w w' := by
  refine (foolscapref25_New.calls most _ _ _ _ w rfl).mono ?_
  rintro e w' ⟨v1, v2, v3, rfl, h1, h2, h3, hb⟩
  obtain ⟨A1, c1, rfl, r1, f1⟩ := row_of_R h1
  obtain ⟨A2, c2, rfl, r2, f2⟩ := row_of_R h2
  obtain ⟨A3, c3, rfl, r3, f3⟩ := rowM_of_R (M := []) h3
  refine ⟨_, rfl, ⟨A1, c1, A2, c2, A3, c3, ?_, r1, r2, r3, f1, f2, f3⟩, Ch.of_below hb⟩
  unfold vM Hist.new
  have : mx 0 (mn most 256) = ((max 0 (min most 256)).toNat : Int) := by
    unfold mx mn
    split <;> split <;> omega
  rw [this]
  rfl

theorem rd71 (M : List (ByteArray × Int)) {i : Nat} (h : i < M.length) : rd_T71 (M.map mk71) (i : Int) = mk71 M[i] := by
  unfold rd_T71
  rw [Int.toNat_natCast, List.getD_eq_getElem?_getD, List.getElem?_map, List.getElem?_eq_getElem h]
  rfl

theorem push_l0 (at_ gone : Int) (m : Int) (d u : List Int) (M : List (ByteArray × Int)) (m' : Int) (d' : List Int) (hg : 0 ≤ gone ∧ gone ≤ 1000) (hM : M.length ≤ 1000) (hb : ∀ p ∈ M, 0 ≤ p.2 ∧ p.2 ≤ 1000) :
    ∀ (n i : Nat) (acc : List (ByteArray × Int)), i + n = M.length → acc.length ≤ i →
      foolscapref25_History_Push.l0 (n + 1) at_ gone (i : Int) m d u (M.map mk71) m' d' (acc.map mk71) = some (m', d', [], (acc ++ (M.drop i).filterMap (stepM gone at_)).map mk71)
  | 0, i, acc, hi, _ => by
    have e : ¬ (i : Int) < ((M.map mk71).length : Int) := by rw [List.length_map]; omega
    unfold foolscapref25_History_Push.l0
    rw [if_neg e, List.drop_of_length_le (by omega), List.filterMap_nil, List.append_nil]
  | n + 1, i, acc, hi, ha => by
    have hlt : i < M.length := by omega
    have e : (i : Int) < ((M.map mk71).length : Int) := by rw [List.length_map]; omega
    have hp := hb M[i] (List.getElem_mem hlt)
    have hw : wrap64 ((i : Int) + 1) = ((i + 1 : Nat) : Int) := by rw [IntWalk.wrap64_in _ (by omega)]; omega
    have hw2 : wrap64 (M[i].2 - gone) = M[i].2 - gone := IntWalk.wrap64_in _ (by omega)
    unfold foolscapref25_History_Push.l0
    rw [if_pos e, if_pos (by omega), rd71 M hlt, hw]
    have hf1 : (mk71 M[i]).f1 = M[i].2 := rfl
    have hf0 : (mk71 M[i]).f0 = M[i].1 := rfl
    rw [hf1, hf0, List.drop_eq_getElem_cons hlt, List.filterMap_cons]
    by_cases c1 : M[i].2 ≤ at_
    · rw [if_pos c1]
      by_cases c2 : M[i].2 ≥ gone
      · rw [if_pos c2, Option.bind_some, if_pos (by rw [List.length_map]; simp; omega), hw2]
        have hs : stepM gone at_ M[i] = some (M[i].1, M[i].2 - gone) := by unfold stepM; rw [if_neg (by omega)]
        rw [hs]
        have := push_l0 at_ gone m d u M m' d' hg hM hb n (i + 1) (acc ++ [(M[i].1, M[i].2 - gone)]) (by omega) (by simp; omega)
        rw [List.map_append] at this
        rw [show ([(⟨M[i].1, M[i].2 - gone⟩ : S71)]) = [(M[i].1, M[i].2 - gone)].map mk71 from rfl, this, List.append_assoc]
        rfl
      · rw [if_neg c2]
        have hs : stepM gone at_ M[i] = none := by unfold stepM; rw [if_pos (by omega)]
        rw [hs]
        exact push_l0 at_ gone m d u M m' d' hg hM hb n (i + 1) acc (by omega) (by omega)
    · rw [if_neg c1]
      have hs : stepM gone at_ M[i] = none := by unfold stepM; rw [if_pos (by omega)]
      rw [hs]
      exact push_l0 at_ gone m d u M m' d' hg hM hb n (i + 1) acc (by omega) (by omega)

theorem push_f {s : Hist} (hok : s.Ok) (x : Int) : foolscapref25_History_Push.f (s.marks.length + 1) s.most (s.all.take s.pos) (s.all.drop s.pos) (s.marks.map mk71) x =
    some ((s.most : Int), (s.push x).all, [], (s.push x).marks.map mk71) := by
  have h1 := hok.pos
  have h2 := hok.all
  have h3 := hok.most
  have hc := hok.count
  have hl : (s.all.take s.pos).length = s.pos := by rw [List.length_take]; omega
  have hg : mx 0 (wrap64 (((s.all.take s.pos ++ [x]).length : Int) - (s.most : Int))) = (s.gone : Int) := by
    rw [List.length_append, hl]
    simp only [List.length_singleton]
    rw [IntWalk.wrap64_in _ (by omega)]
    unfold mx Hist.gone
    split <;> omega
  have hgl : s.gone ≤ s.pos + 1 := by unfold Hist.gone; omega
  unfold foolscapref25_History_Push.f
  simp only [Option.bind_some, List.nil_append, List.length_nil]
  rw [if_pos (by omega), if_pos (by rw [hl]; simp; omega), hg, if_pos (by omega), if_pos (by rw [List.length_append, hl]; simp; omega)]
  have := push_l0 (s.pos : Int) (s.gone : Int) s.most (s.all.take s.pos) (s.all.drop s.pos) s.marks s.most ((s.all.take s.pos ++ [x]).drop s.gone) (by omega) (by omega)
    (fun p hp => by have := hok.marks p hp; omega) s.marks.length 0 [] (by omega) (Nat.le_refl _)
  rw [hl, Int.toNat_natCast]
  rw [List.map_nil] at this
  rw [show ((0 : Int)) = ((0 : Nat) : Int) from rfl, this]
  rfl
theorem inner_map {w : World} {base : Nat} {ok : Nat → Prop} {xs : List Int} {inner : List Value} (h : Reps (kI.M w base ok) kI.sz xs inner) : inner = xs.map (Value.int .i64) := by
  have hl : inner.length = xs.length := by have := h.1; rw [show kI.sz = 1 from rfl] at this; omega
  apply List.ext_getElem? 
  intro j
  by_cases hj : j < xs.length
  · have h2 := h.2 j _ (List.getElem?_eq_getElem hj)
    have h3 : (inner.drop (j * 1)).take 1 = [.int .i64 xs[j]] := h2
    rw [Nat.mul_one, List.drop_eq_getElem_cons (by omega)] at h3
    simp only [List.take_succ_cons, List.take_zero, List.cons.injEq, and_true] at h3
    rw [List.getElem?_eq_getElem (by omega), h3, List.getElem?_map, List.getElem?_eq_getElem hj]
    rfl
  · rw [List.getElem?_eq_none (by omega), List.getElem?_eq_none (by rw [List.length_map]; omega)]
theorem row_of_Q {w : World} {base : Nat} {ok : Nat → Prop} {v : Value} {xs : List Int} (h : kI.Q 3 w base ok v xs) : ∃ A c, v = .slice A xs.length c ∧ Row w A c xs ∧ (∀ ad, A = some ad → base ≤ ad.block ∧ ad.block < w.heap.size) := by
  obtain ⟨_, inner, hq, hr⟩ := h
  have hin := inner_map hr
  obtain ⟨hl, hq⟩ := hq
  rcases hq with ⟨h0, A, rfl, hA⟩ | ⟨g, off, cap, cur, rfl, hg, hblk, hn, hmax, hsz, ht⟩
  · have e : xs = [] := List.eq_nil_of_length_eq_zero h0
    subst e
    exact ⟨A, 0, rfl, ⟨Nat.le_refl _, fun _ => rfl, by omega, fun h => absurd rfl h⟩, fun ad e => ⟨(hA ad e).1, by obtain ⟨_, cur, hc⟩ := hA ad e; exact blk_size hc⟩⟩
  · refine ⟨_, _, rfl, ⟨hn, (fun e => by cases e), by unfold maxLen at hmax; omega, fun _ => ⟨g, off * 1, cur, _, rfl, hblk, fun j hj => ?_⟩⟩, fun ad e => by cases e; exact ⟨hg, blk_size hblk⟩⟩
    have e1 : ((cur.toList.drop (off * 1)).take (xs.length * 1))[j]? = (xs.map (Value.int .i64))[j]? := by rw [← hin]; exact congrArg (·[j]?) ht
    rw [List.getElem?_take_of_lt (by omega), List.getElem?_drop, List.getElem?_map, List.getElem?_eq_getElem hj, Array.getElem?_toList] at e1
    rw [e1, List.getD_eq_getElem?_getD, List.getElem?_eq_getElem hj]
    rfl

theorem mpush (F : Nat → Prop) (s : Hist) (x : Int) (v : Value) (w : World) (hF : ∀ i, w.heap.size ≤ i → F i) (hok : s.Ok) (h : HasM w F s v) :
    Calls Try.prog 30 #[v, .int .i64 x] w fun e w' => ∃ v', e = .returned v' ∧ HasM w' F (s.push x) v' ∧ Ch (fun _ => False) w w' := by
  obtain ⟨A1, c1, A2, c2, A3, c3, rfl, h⟩ := h
  have h1 := hok.pos
  have h2 := hok.all
  have h3 := hok.most
  have hl : (s.all.take s.pos).length = s.pos := by rw [List.length_take]; omega
  have hl2 : (s.all.drop s.pos).length = s.all.length - s.pos := by rw [List.length_drop]
  have k1 := C_of_row h.one (by omega)
  have k2 := C_of_row h.two (by omega)
  have k3 : k71.C w A3 (s.marks.map mk71).length (s.marks.map mk71) := by rw [List.length_map]; exact h.three.read
  have := foolscapref25_History_Push.calls (s.marks.length + 1) s.most A1 c1 (s.all.take s.pos) A2 c2 (s.all.drop s.pos) A3 c3 (s.marks.map mk71) x _ _ _ _ w k1 h.one.1 k2 h.two.1 k3 (by rw [List.length_map]; exact h.three.cap) (push_f hok x)
  rw [hl, hl2, List.length_map] at this
  refine this.mono ?_
  rintro e w' ⟨v1, v2, v3, rfl, g1, g2, g3, hb⟩
  obtain ⟨B1, d1, rfl, r1, f1⟩ := row_of_Q g1
  obtain ⟨B2, d2, rfl, r2, f2⟩ := row_of_R g2
  obtain ⟨B3, d3, rfl, r3, f3⟩ := rowM_of_R g3
  have e1 := push_all hok x
  refine ⟨_, rfl, ⟨B1, d1, B2, d2, B3, d3, ?_, ?_, ?_, r3, fun ad e => ⟨hF _ (f1 ad e).1, (f1 ad e).2⟩, fun ad e => ⟨hF _ (f2 ad e).1, (f2 ad e).2⟩, fun ad e => ⟨hF _ (f3 ad e).1, (f3 ad e).2⟩⟩, Ch.of_below hb⟩
  · unfold vM
    rw [e1, Nat.sub_self]
    rfl
  · rw [← e1, List.take_length]; exact r1
  · rw [← e1, List.drop_length]; exact r2
end Go.Proofs.Ytedpjfanfhhfdaa
/- The walk of the reference's Mark. -/
namespace Go.Proofs.Ytedpjfanfhhfdaa
open Go.ChangeMaps Go.MapKept Go.WideShapes Go.RowKit Hist
open PUndoPlays
open Go.Proofs.YtedpjfanfhhfdaaW.PrintWords Go.Proofs.YtedpjfanfhhfdaaW.PrintLast Go.Proofs.YtedpjfanfhhfdaaW.PrintMore

/-- where a name stands -/
def idxM (M : List (ByteArray × Int)) (n : ByteArray) : Int := match M.findIdx? (fun p => decide (p.1 = n)) with | some i => (i : Int) | none => -1

theorem find_l0 (m : Int) (d u : List Int) (M : List (ByteArray × Int)) (nm : ByteArray) (hM : M.length ≤ 1000) : ∀ (n i : Nat), i + n = M.length → (∀ j, (h : j < M.length) → j < i → M[j].1 ≠ nm) →
    foolscapref25_History_find.l0 (n + 1) nm (i : Int) m d u (M.map mk71) = some (idxM M nm)
  | 0, i, hi, hb => by
    have e : ¬ (i : Int) < ((M.map mk71).length : Int) := by rw [List.length_map]; omega
    unfold foolscapref25_History_find.l0
    rw [if_neg e]
    have : M.findIdx? (fun p => decide (p.1 = nm)) = none := by
      rw [List.findIdx?_eq_none_iff]
      intro p hp
      obtain ⟨j, hj, rfl⟩ := List.getElem_of_mem hp
      simpa using hb j hj (by omega)
    unfold idxM
    rw [this]
  | n + 1, i, hi, hb => by
    have hlt : i < M.length := by omega
    have e : (i : Int) < ((M.map mk71).length : Int) := by rw [List.length_map]; omega
    have hw : wrap64 ((i : Int) + 1) = ((i + 1 : Nat) : Int) := by rw [IntWalk.wrap64_in _ (by omega)]; omega
    unfold foolscapref25_History_find.l0
    rw [if_pos e, if_pos (by omega), rd71 M hlt, hw]
    have hf0 : (mk71 M[i]).f0 = M[i].1 := rfl
    rw [hf0]
    by_cases c : M[i].1 = nm
    · rw [if_pos (by rw [c])]
      have : M.findIdx? (fun p => decide (p.1 = nm)) = some i := by
        rw [List.findIdx?_eq_some_iff_getElem]
        exact ⟨hlt, by simpa using c, fun j hj => by simpa using hb j (by omega) hj⟩
      unfold idxM
      rw [this]
    · rw [if_neg (by
        rw [ByteArray.toList_eq, ByteArray.toList_eq]
        intro e
        exact c (ByteArray.ext (Array.toList_inj.1 e)))]
      refine find_l0 m d u M nm hM n (i + 1) (by omega) (fun j h hj => ?_)
      rcases Nat.lt_or_ge j i with h1 | h1
      · exact hb j h h1
      · have : j = i := by omega
        subst this; exact c

theorem mfind (F : Nat → Prop) (s : Hist) (nm : ByteArray) (w : World) (hok : s.Ok) {A1 : Option Addr} {c1 : Nat} {A2 : Option Addr} {c2 : Nat} {A3 : Option Addr} {c3 : Nat} (h : IsM w F s A1 c1 A2 c2 A3 c3) :
    Calls Try.prog 38 #[vM s A1 c1 A2 c2 A3 c3, .string nm] w fun e w' => e = .returned (.int .i64 (idxM s.marks nm)) ∧ Ch (fun _ => False) w w' := by
  have h1 := hok.pos
  have h2 := hok.all
  have h3 := hok.most
  have hl : (s.all.take s.pos).length = s.pos := by rw [List.length_take]; omega
  have hl2 : (s.all.drop s.pos).length = s.all.length - s.pos := by rw [List.length_drop]
  have k1 := C_of_row h.one (by omega)
  have k2 := C_of_row h.two (by omega)
  have k3 : k71.C w A3 (s.marks.map mk71).length (s.marks.map mk71) := by rw [List.length_map]; exact h.three.read
  have := foolscapref25_History_find.calls (s.marks.length + 1) s.most A1 c1 (s.all.take s.pos) A2 c2 (s.all.drop s.pos) A3 c3 (s.marks.map mk71) nm _ w k1 h.one.1 k2 h.two.1 k3 (by rw [List.length_map]; exact h.three.cap)
    (find_l0 s.most (s.all.take s.pos) (s.all.drop s.pos) s.marks nm (by have := hok.count; omega) s.marks.length 0 (by omega) (fun j _ hj => absurd hj (by omega)))
  rw [hl, hl2, List.length_map] at this
  exact this.mono (fun e w' ⟨he, hb⟩ => ⟨he, Ch.of_below hb⟩)

/-! ### the walk -/
theorem idx_none {M : List (ByteArray × Int)} {n : ByteArray} (h : getM M n = none) : idxM M n = -1 := by
  have h1 := getM_none.1 h
  have : M.findIdx? (fun p => decide (p.1 = n)) = none := by
    rw [List.findIdx?_eq_none_iff]
    intro p hp
    simpa using h1 p hp
  unfold idxM
  rw [this]
theorem idx_some {M : List (ByteArray × Int)} {n : ByteArray} {v : Int} (h : getM M n = some v) : ∃ i, ∃ hi : i < M.length, idxM M n = (i : Int) ∧ M[i] = (n, v) := by
  unfold getM at h
  cases e : M.find? (fun p => decide (p.1 = n)) with
  | none => rw [e] at h; cases h
  | some q =>
    rw [e] at h
    cases e2 : M.findIdx? (fun p => decide (p.1 = n)) with
    | none =>
      rw [List.findIdx?_eq_none_iff] at e2
      have := e2 q (List.mem_of_find?_eq_some e)
      have h2 := List.find?_some e
      rw [this] at h2; cases h2
    | some i =>
      obtain ⟨hi, hp, hb⟩ := List.findIdx?_eq_some_iff_getElem.1 e2
      refine ⟨i, hi, by unfold idxM; rw [e2], ?_⟩
      have e3 : M.find? (fun p => decide (p.1 = n)) = some M[i] := by
        rw [List.find?_eq_some_iff_getElem]
        exact ⟨hp, i, hi, rfl, fun j hj => by have := hb j hj; simpa using this⟩
      rw [e] at e3
      cases e3
      simp only [decide_eq_true_eq] at hp
      have h3 : M[i].2 = v := by simpa using h
      rw [← hp, ← h3]
theorem idx_iff {M : List (ByteArray × Int)} (hn : (M.map (·.1)).Nodup) {n : ByteArray} {j : Nat} (hj : j < M.length) : idxM M n = (j : Int) ↔ M[j].1 = n := by
  cases e : getM M n with
  | none =>
    rw [idx_none e]
    constructor
    · intro h; omega
    · intro h; exact absurd h (getM_none.1 e _ (List.getElem_mem hj))
  | some v =>
    obtain ⟨i, hi, h1, h2⟩ := idx_some e
    rw [h1]
    constructor
    · intro h
      have : i = j := by omega
      subst this
      rw [h2]
    · intro h
      have hij : i = j := by
        have h3 : (M.map (·.1))[i]'(by simpa using hi) = (M.map (·.1))[j]'(by simpa using hj) := by simp [h2, h]
        exact (List.getElem_inj hn).1 h3
      rw [hij]

set_option maxRecDepth 100000 in
set_option maxHeartbeats 1000000 in
theorem mmark_bad (m : Int) (A1 : Option Addr) (n1 c1 : Nat) (A2 : Option Addr) (n2 c2 : Nat) (A3 : Option Addr) (n3 c3 : Nat) (nm : ByteArray) (w : World) (hn : nm.size = 0 ∨ 20 < nm.size) :
    Calls Try.prog 28 #[.agg #[.int .i64 m, .slice A1 n1 c1, .slice A2 n2 c2, .slice A3 n3 c3], .string nm] w fun e w' =>
      e = .returned (.tuple #[.agg #[.int .i64 m, .slice A1 n1 c1, .slice A2 n2 c2, .slice A3 n3 c3], .int .i64 2]) ∧ Ch (fun _ => False) w w' := by
  have hu34 := Try.underlying34
  rcases hn with hn | hn
  · have e : nm = ⟨#[]⟩ := ByteArray.ext (Array.eq_empty_of_size_eq_zero hn)
    subst e
    go_enter Try.func28, Try.ntmps28
    go_wp2
    refine bodyPost_ret (results_ct rfl _ _ (w.heap.size + 1) 34 _ (0, 0) _ rfl (alloc2_top _ _ _) Try.underlying34 rfl (by kernel_rfl)) rfl ?_
    exact ⟨rfl, ch_alloc2 _ _ _⟩
  · have e : nm.toList.isEmpty = false := toList_ne (by omega)
    have h1 : (20 : Int) < (nm.size : Int) := by omega
    go_enter Try.func28, Try.ntmps28
    go_wp2
    refine bodyPost_ret (results_ct rfl _ _ (w.heap.size + 1) 34 _ (0, 0) _ rfl (alloc2_top _ _ _) Try.underlying34 rfl (by kernel_rfl)) rfl ?_
    exact ⟨rfl, ch_alloc2 _ _ _⟩

set_option maxRecDepth 100000 in
set_option maxHeartbeats 1000000 in
theorem mmark_full (F : Nat → Prop) (s : Hist) (A1 : Option Addr) (c1 : Nat) (A2 : Option Addr) (c2 : Nat) (A3 : Option Addr) (c3 : Nat) (nm : ByteArray) (w : World) (hok : s.Ok) (h : IsM w F s A1 c1 A2 c2 A3 c3) (h0 : nm.size ≠ 0) (h20 : nm.size ≤ 20)
    (hi : idxM s.marks nm = -1) (hfull : 16 ≤ s.marks.length) :
    Calls Try.prog 28 #[vM s A1 c1 A2 c2 A3 c3, .string nm] w fun e w' => e = .returned (.tuple #[vM s A1 c1 A2 c2 A3 c3, .int .i64 7]) ∧ Ch (fun _ => False) w w' := by
  have hu34 := Try.underlying34
  obtain ⟨W, hW⟩ : ∃ W, W = (w.alloc (.cells #[.int .i64 s.most, .slice A1 s.pos c1, .slice A2 (s.all.length - s.pos) c2, .slice A3 s.marks.length c3] 34)).alloc (.cells #[.int .i64 0, .slice none 0 0, .slice none 0 0, .slice none 0 0] 34) := ⟨_, rfl⟩
  have b1 := alloc2_low w (.cells #[.int .i64 s.most, .slice A1 s.pos c1, .slice A2 (s.all.length - s.pos) c2, .slice A3 s.marks.length c3] 34) (.cells #[.int .i64 0, .slice none 0 0, .slice none 0 0, .slice none 0 0] 34)
  have b2 := alloc2_top w (.cells #[.int .i64 s.most, .slice A1 s.pos c1, .slice A2 (s.all.length - s.pos) c2, .slice A3 s.marks.length c3] 34) (.cells #[.int .i64 0, .slice none 0 0, .slice none 0 0, .slice none 0 0] 34)
  rw [← hW] at b1 b2
  have hch : Ch (fun _ => False) w W := by rw [hW]; exact ch_alloc2 _ _ _
  have HF := Lib.hid (mfind F s nm W hok (h.ch0 hch))
  rw [hi] at HF
  unfold vM at HF ⊢
  have HC := Lib.hid hch
  have hne := toList_ne h0
  have hsz : ¬ (20 : Int) < (nm.size : Int) := by omega
  have hf : (16 : Int) ≤ (s.marks.length : Int) := by omega
  clear hch h hi hok
  have B1 := Lib.hid b1
  have B2 := Lib.hid b2
  clear b1 b2
  go_enter Try.func28, Try.ntmps28
  go_upto_region 3 with (fail)
  rw [← hW]
  clear hW
  have b1 := B1.out
  have g0 : W.cell? ⟨w.heap.size, 0, none⟩ = some (.int .i64 s.most) := by rw [cell_of_blk b1]; rfl
  have g1 : W.cell? ⟨w.heap.size, 1, none⟩ = some (.slice A1 s.pos c1) := by rw [cell_of_blk b1]; rfl
  have g2 : W.cell? ⟨w.heap.size, 2, none⟩ = some (.slice A2 (s.all.length - s.pos) c2) := by rw [cell_of_blk b1]; rfl
  have g3 : W.cell? ⟨w.heap.size, 3, none⟩ = some (.slice A3 s.marks.length c3) := by rw [cell_of_blk b1]; rfl
  clear b1
  go_wp2_with fail
  refine HF.out.mono ?_
  rintro e w2 ⟨rfl, hc2⟩
  have bb1 := hc2.blk B1.out (fun h => h)
  have bb2 := hc2.blk B2.out (fun h => h)
  have k0 : w2.cell? ⟨w.heap.size, 0, none⟩ = some (.int .i64 s.most) := by rw [cell_of_blk bb1]; rfl
  have k1 : w2.cell? ⟨w.heap.size, 1, none⟩ = some (.slice A1 s.pos c1) := by rw [cell_of_blk bb1]; rfl
  have k2 : w2.cell? ⟨w.heap.size, 2, none⟩ = some (.slice A2 (s.all.length - s.pos) c2) := by rw [cell_of_blk bb1]; rfl
  have k3 : w2.cell? ⟨w.heap.size, 3, none⟩ = some (.slice A3 s.marks.length c3) := by rw [cell_of_blk bb1]; rfl
  have z0 : w2.cell? ⟨w.heap.size + 1, 0, none⟩ = some (.int .i64 0) := by rw [cell_of_blk bb2]; rfl
  have z1 : w2.cell? ⟨w.heap.size + 1, 1, none⟩ = some (.slice none 0 0) := by rw [cell_of_blk bb2]; rfl
  have z2 : w2.cell? ⟨w.heap.size + 1, 2, none⟩ = some (.slice none 0 0) := by rw [cell_of_blk bb2]; rfl
  have z3 : w2.cell? ⟨w.heap.size + 1, 3, none⟩ = some (.slice none 0 0) := by rw [cell_of_blk bb2]; rfl
  have f0 := frozen_of_blk bb2 0
  have f1 := frozen_of_blk bb2 1
  have f2 := frozen_of_blk bb2 2
  have f3 := frozen_of_blk bb2 3
  have HC2 := Lib.hid hc2
  have HB2 := Lib.hid bb2
  clear hc2 bb1 bb2 g0 g1 g2 g3
  go_wp2
  clear k0 k1 k2 k3 z0 z1 z2 z3 f0 f1 f2 f3
  have P := put4 HB2.out (.int .i64 s.most) (.slice A1 s.pos c1) (.slice A2 (s.all.length - s.pos) c2) (.slice A3 s.marks.length c3)
  refine bodyPost_ret (results_ct rfl _ _ (w.heap.size + 1) 34 _ (0, 0) _ rfl P.1 Try.underlying34 rfl (by kernel_rfl)) rfl ?_
  exact ⟨rfl, (HC.out.trans HC2.out).trans' P.2 (fun _ h => h) (fun i hi e => by omega)⟩
def MMLoop (w2 : World) (M : List (ByteArray × Int)) (nm : ByteArray) (v i : Value) (wr : World) : Prop :=
  ∃ j : Int, 0 ≤ j ∧ j ≤ (M.length : Int) ∧ i = .int .i64 j ∧ k71.R 71 wr w2.heap.size (fun _ => True) v (((M.take j.toNat).filter (fun p => decide (p.1 ≠ nm))).map mk71) ∧ Below w2.heap.size w2 wr
theorem filter_step (M : List (ByteArray × Int)) (nm : ByteArray) {j : Int} (h0 : 0 ≤ j) (h1 : j < (M.length : Int)) : ((M.take (j + 1).toNat).filter (fun p => decide (p.1 ≠ nm))).map mk71 =
    ((M.take j.toNat).filter (fun p => decide (p.1 ≠ nm))).map mk71 ++ (if (M[j.toNat]'(by omega)).1 = nm then [] else [mk71 (M[j.toNat]'(by omega))]) := by
  have e : (j + 1).toNat = j.toNat + 1 := by omega
  rw [e, List.take_succ_eq_append_getElem (by omega), List.filter_append, List.map_append]
  congr 1
  by_cases c : (M[j.toNat]'(by omega)).1 = nm
  · simp [c]
  · simp [c]

set_option maxRecDepth 100000 in
set_option maxHeartbeats 4000000 in
theorem mmark_new (F : Nat → Prop) (s : Hist) (A1 : Option Addr) (c1 : Nat) (A2 : Option Addr) (c2 : Nat) (A3 : Option Addr) (c3 : Nat) (nm : ByteArray) (w : World) (hok : s.Ok) (h : IsM w F s A1 c1 A2 c2 A3 c3) (h0 : nm.size ≠ 0) (h20 : nm.size ≤ 20)
    (hi : 0 ≤ idxM s.marks nm ∨ s.marks.length < 16) :
    Calls Try.prog 28 #[vM s A1 c1 A2 c2 A3 c3, .string nm] w fun e w' => ∃ A' c', e = .returned (.tuple #[.agg #[.int .i64 s.most, .slice A1 s.pos c1, .slice A2 (s.all.length - s.pos) c2, .slice A' ((setM s.marks nm s.pos).length) c'], .int .i64 0]) ∧
      RowM w' A' c' (setM s.marks nm s.pos) ∧ (∀ ad, A' = some ad → w.heap.size ≤ ad.block ∧ ad.block < w'.heap.size) ∧ Ch (fun _ => False) w w' := by
  have hu34 := Try.underlying34
  obtain ⟨W, hW⟩ : ∃ W, W = (w.alloc (.cells #[.int .i64 s.most, .slice A1 s.pos c1, .slice A2 (s.all.length - s.pos) c2, .slice A3 s.marks.length c3] 34)).alloc (.cells #[.int .i64 0, .slice none 0 0, .slice none 0 0, .slice none 0 0] 34) := ⟨_, rfl⟩
  have b1 := alloc2_low w (.cells #[.int .i64 s.most, .slice A1 s.pos c1, .slice A2 (s.all.length - s.pos) c2, .slice A3 s.marks.length c3] 34) (.cells #[.int .i64 0, .slice none 0 0, .slice none 0 0, .slice none 0 0] 34)
  have b2 := alloc2_top w (.cells #[.int .i64 s.most, .slice A1 s.pos c1, .slice A2 (s.all.length - s.pos) c2, .slice A3 s.marks.length c3] 34) (.cells #[.int .i64 0, .slice none 0 0, .slice none 0 0, .slice none 0 0] 34)
  rw [← hW] at b1 b2
  have hch : Ch (fun _ => False) w W := by rw [hW]; exact ch_alloc2 _ _ _
  have HF := Lib.hid (mfind F s nm W hok (h.ch0 hch))
  have hnd := hok.nodup
  obtain ⟨ix, hix⟩ : ∃ ix, ix = idxM s.marks nm := ⟨_, rfl⟩
  have hxi : ∀ j : Nat, (hj : j < s.marks.length) → (ix = (j : Int) ↔ s.marks[j].1 = nm) := fun j hj => by rw [hix]; exact idx_iff hnd hj
  have hxr : ix < 0 → (s.marks.length : Int) < 16 := fun h => by rw [← hix] at hi; rcases hi with h1 | h1 <;> omega
  rw [← hix] at HF
  have h16 := hok.count
  have hM := Lib.hid (h.ch0 hch).three
  have HXI := Lib.hid hxi
  clear hnd hix hxi hi
  unfold vM at HF ⊢
  have HC := Lib.hid hch
  have hne := toList_ne h0
  have hsz : ¬ (20 : Int) < (nm.size : Int) := by omega
  clear hch h hok
  have B1 := Lib.hid b1
  have B2 := Lib.hid b2
  clear b1 b2
  go_enter Try.func28, Try.ntmps28
  go_upto_region 3 with (fail)
  rw [← hW]
  clear hW
  have b1 := B1.out
  have g0 : W.cell? ⟨w.heap.size, 0, none⟩ = some (.int .i64 s.most) := by rw [cell_of_blk b1]; rfl
  have g1 : W.cell? ⟨w.heap.size, 1, none⟩ = some (.slice A1 s.pos c1) := by rw [cell_of_blk b1]; rfl
  have g2 : W.cell? ⟨w.heap.size, 2, none⟩ = some (.slice A2 (s.all.length - s.pos) c2) := by rw [cell_of_blk b1]; rfl
  have g3 : W.cell? ⟨w.heap.size, 3, none⟩ = some (.slice A3 s.marks.length c3) := by rw [cell_of_blk b1]; rfl
  clear b1
  go_wp2_with fail
  refine HF.out.mono ?_
  rintro e w2 ⟨rfl, hc2⟩
  have bb1 := hc2.blk B1.out (fun h => h)
  have bb2 := hc2.blk B2.out (fun h => h)
  have k0 : w2.cell? ⟨w.heap.size, 0, none⟩ = some (.int .i64 s.most) := by rw [cell_of_blk bb1]; rfl
  have k1 : w2.cell? ⟨w.heap.size, 1, none⟩ = some (.slice A1 s.pos c1) := by rw [cell_of_blk bb1]; rfl
  have k2 : w2.cell? ⟨w.heap.size, 2, none⟩ = some (.slice A2 (s.all.length - s.pos) c2) := by rw [cell_of_blk bb1]; rfl
  have k3 : w2.cell? ⟨w.heap.size, 3, none⟩ = some (.slice A3 s.marks.length c3) := by rw [cell_of_blk bb1]; rfl
  have z0 : w2.cell? ⟨w.heap.size + 1, 0, none⟩ = some (.int .i64 0) := by rw [cell_of_blk bb2]; rfl
  have z1 : w2.cell? ⟨w.heap.size + 1, 1, none⟩ = some (.slice none 0 0) := by rw [cell_of_blk bb2]; rfl
  have z2 : w2.cell? ⟨w.heap.size + 1, 2, none⟩ = some (.slice none 0 0) := by rw [cell_of_blk bb2]; rfl
  have z3 : w2.cell? ⟨w.heap.size + 1, 3, none⟩ = some (.slice none 0 0) := by rw [cell_of_blk bb2]; rfl
  have f0 := frozen_of_blk bb2 0
  have f1 := frozen_of_blk bb2 1
  have f2 := frozen_of_blk bb2 2
  have f3 := frozen_of_blk bb2 3
  have HC2 := Lib.hid hc2
  have HX1 := Lib.hid bb1
  have HB2 := Lib.hid bb2
  clear hc2 bb1 bb2 g0 g1 g2 g3
  have hbx : (if ix < 0 then (s.marks.length : Int) < 16 else True) := by split; exact hxr (by assumption); trivial
  clear hxr
  by_cases hneg : ix < 0
  all_goals
    simp only [hneg, if_true, if_false] at hbx
    go_wp2
    go_loopw [7, 8] (fun v i wr => MMLoop w2 s.marks nm v i wr) (fun _ i _ => s.marks.length - (intOf i).toNat)
    case atStart => exact ⟨0, by omega, by omega, rfl, Kd.R_nil _ _ _ _ _, Below.refl _ _⟩
    case round =>
      obtain ⟨j, hj0, hj1, rfl, hR, hB⟩ := hrel
      have HR := Lib.hid hR
      have HB := Lib.hid hB
      clear hR hB
      clear k0 k1 k2 k3 z0 z1 z2 z3 f0 f1 f2 f3
      have lt0 : w.heap.size < w2.heap.size := blk_size HX1.out
      have lt1 : w.heap.size + 1 < w2.heap.size := blk_size HB2.out
      have bb1 := (HB.out.block w.heap.size lt0).trans HX1.out
      have bb2 := (HB.out.block (w.heap.size + 1) lt1).trans HB2.out
      have k0 : wr.cell? ⟨w.heap.size, 0, none⟩ = some (.int .i64 s.most) := by rw [cell_of_blk bb1]; rfl
      have k1 : wr.cell? ⟨w.heap.size, 1, none⟩ = some (.slice A1 s.pos c1) := by rw [cell_of_blk bb1]; rfl
      have k2 : wr.cell? ⟨w.heap.size, 2, none⟩ = some (.slice A2 (s.all.length - s.pos) c2) := by rw [cell_of_blk bb1]; rfl
      have k3 : wr.cell? ⟨w.heap.size, 3, none⟩ = some (.slice A3 s.marks.length c3) := by rw [cell_of_blk bb1]; rfl
      have HX3 := Lib.hid bb1
      have HX4 := Lib.hid bb2
      clear bb1 bb2
      by_cases hlt : j < (s.marks.length : Int)
      · have hs := filter_step s.marks nm hj0 hlt
        have hix := HXI.out j.toNat (by omega)
        rw [Int.toNat_of_nonneg hj0] at hix
        obtain ⟨q, hq⟩ : ∃ q, q = s.marks[j.toNat]'(by omega) := ⟨_, rfl⟩
        rw [← hq] at hs hix
        by_cases hjx : j = ix
        · first | (exfalso; omega) | skip
          all_goals
            have hqn : q.1 = nm := hix.1 hjx.symm
            rw [if_pos hqn, List.append_nil] at hs
            have HS := Lib.hid hs
            clear hs hix hq hqn
            subst hjx
            go_wp2
            go_roundw
            case rel => exact ⟨j + 1, by omega, by omega, by go_num, by rw [HS.out]; exact HR.out, HB.out⟩
            case measure => simp [intOf]; omega
        · have hqn : q.1 ≠ nm := fun e => hjx (hix.2 e).symm
          rw [if_neg hqn] at hs
          have HS := Lib.hid hs
          have hrd : rd_T71 (s.marks.map mk71) j = mk71 q := by
            have := rd71 s.marks (i := j.toNat) (by omega)
            rw [Int.toNat_of_nonneg hj0] at this
            rw [this, hq]
          have hrow : k71.C wr A3 s.marks.length (s.marks.map mk71) := (hM.out.chA (HC2.out.trans (Ch.of_below HB.out)) (fun _ _ h => h)).read
          obtain ⟨ad, rfl, e0, e1⟩ := at_T71 hrow j hj0 hlt
          rw [hrd] at e0 e1
          have e0 : wr.cell? (ad.add (j.toNat * 2)) = some (.string q.1) := e0
          have e1 : wr.cell? ⟨(ad.add (j.toNat * 2)).block, (ad.add (j.toNat * 2)).off + 1, none⟩ = some (.int .i64 q.2) := e1
          clear hs hix hq hqn hrd hrow
          have hfl : (((s.marks.take j.toNat).filter (fun p => decide (p.1 ≠ nm))).map mk71).length ≤ 1000 := by
            rw [List.length_map]
            have h1 := List.length_filter_le (fun p : ByteArray × Int => decide (p.1 ≠ nm)) (s.marks.take j.toNat)
            rw [List.length_take] at h1
            omega
          have HFL := Lib.hid hfl
          clear hfl
          go_wp2_with (at_builtin; refine Kd.R_append k71 (w0 := w2) w2.heap.size rfl (.tmp 39) (.tmp 45) 32 71 (.agg #[(.string ⟨#[]⟩), (.int .i64 0)]) 24 rfl Try.underlying32 info71 rfl (by decide) (by omega) _ _ (mk71 q) [.string (mk71 q).f0, .int .i64 (mk71 q).f1] (fun _ => True) (fun _ => False) rfl rfl ?aP (fun _ hk => hk.elim) (fun _ _ => trivial) HR.out HB.out ?aS ?aL ?_; (case aP => exact k71_mkM _ _ _ (mk71 q)); (case aS => exact HB.out.size); (case aL => have := HFL.out; omega); intro v1 w1 ho1 hb1 hg1 hat1; have HO1 := Lib.hid ho1; have HB1 := Lib.hid hb1; clear ho1 hb1 hg1 hat1)
          go_roundw
          case rel => exact ⟨j + 1, by omega, by omega, by go_num, by rw [HS.out]; exact HO1.out, HB1.out⟩
          case measure => simp [intOf]; omega
      · have hjl : j.toNat = s.marks.length := by omega
        rw [hjl, List.take_length] at HR
        have hset : (s.marks.filter (fun p => decide (p.1 ≠ nm))).map mk71 ++ [mk71 (nm, (s.pos : Int))] = (setM s.marks nm s.pos).map mk71 := by unfold setM; rw [List.map_append]; rfl
        have hfl : ((s.marks.filter (fun p => decide (p.1 ≠ nm))).map mk71).length ≤ 1000 := by
          rw [List.length_map]
          have h1 := List.length_filter_le (fun p : ByteArray × Int => decide (p.1 ≠ nm)) s.marks
          omega
        have HFL := Lib.hid hfl
        have HS := Lib.hid hset
        clear hfl hset hjl
        go_upto_region 13 with (at_builtin; refine Kd.R_append k71 (w0 := w2) w2.heap.size rfl (.tmp 47) (.tmp 53) 32 71 (.agg #[(.string ⟨#[]⟩), (.int .i64 0)]) 24 rfl Try.underlying32 info71 rfl (by decide) (by omega) _ _ (mk71 (nm, (s.pos : Int))) [.string nm, .int .i64 (s.pos : Int)] (fun _ => True) (fun _ => False) rfl rfl ?aP (fun _ hk => hk.elim) (fun _ _ => trivial) HR.out HB.out ?aS ?aL ?_; (case aP => exact k71_mkM _ _ _ (mk71 (nm, (s.pos : Int)))); (case aS => exact HB.out.size); (case aL => have := HFL.out; omega); intro v1 w1 ho1 hb1 hg1 hat1; rw [HS.out] at ho1; obtain ⟨A', c', rfl, hrow, hfar⟩ := rowM_of_R ho1; have bc1 := (hb1.block w.heap.size lt0).trans HX1.out; have bc2 := (hb1.block (w.heap.size + 1) lt1).trans HB2.out; have HO1 := Lib.hid (show _ ∧ _ from ⟨hrow, hfar⟩); have HB1 := Lib.hid hb1; have HY1 := Lib.hid bc1; have HY2 := Lib.hid bc2; have m0 : w1.cell? ⟨w.heap.size, 0, none⟩ = some (.int .i64 s.most) := (cell_of_blk bc1 0).trans rfl; have m1 : w1.cell? ⟨w.heap.size, 1, none⟩ = some (.slice A1 s.pos c1) := (cell_of_blk bc1 1).trans rfl; have m2 : w1.cell? ⟨w.heap.size, 2, none⟩ = some (.slice A2 (s.all.length - s.pos) c2) := (cell_of_blk bc1 2).trans rfl; have m3 : w1.cell? ⟨w.heap.size, 3, none⟩ = some (.slice A3 s.marks.length c3) := (cell_of_blk bc1 3).trans rfl; have mf := frozen_of_blk bc1 3; clear ho1 hb1 hg1 hat1 hrow hfar bc1 bc2)
        obtain ⟨W3, hW3⟩ : ∃ W3, W3 = w1.setCell ⟨w.heap.size, 3, none⟩ (.slice A' (setM s.marks nm s.pos).length c') := ⟨_, rfl⟩
        have p1 := blk_setCell HY1.out 3 (.slice A' (setM s.marks nm s.pos).length c')
        have hc3 : Ch (· = w.heap.size) w1 W3 := by rw [hW3]; exact (Ch.refl (· = w.heap.size) w1).setCell ⟨w.heap.size, 3, none⟩ (fun _ => rfl) _
        rw [← hW3] at p1
        have p2 := hc3.blk HY2.out (by omega)
        rw [← hW3]
        have HR2 := Lib.hid (HO1.out.1.chA hc3 (fun ad e h => by have := (HO1.out.2 ad e).1; omega))
        have HC3 := Lib.hid hc3
        have HP2 := Lib.hid p2
        have hfar := Lib.hid HO1.out.2
        have n0 : W3.cell? ⟨w.heap.size, 0, none⟩ = some (.int .i64 s.most) := (cell_of_blk p1 0).trans rfl
        have n1 : W3.cell? ⟨w.heap.size, 1, none⟩ = some (.slice A1 s.pos c1) := (cell_of_blk p1 1).trans rfl
        have n2 : W3.cell? ⟨w.heap.size, 2, none⟩ = some (.slice A2 (s.all.length - s.pos) c2) := (cell_of_blk p1 2).trans rfl
        have n3 : W3.cell? ⟨w.heap.size, 3, none⟩ = some (.slice A' (setM s.marks nm s.pos).length c') := (cell_of_blk p1 3).trans rfl
        have z0 : W3.cell? ⟨w.heap.size + 1, 0, none⟩ = some (.int .i64 0) := (cell_of_blk p2 0).trans rfl
        have z1 : W3.cell? ⟨w.heap.size + 1, 1, none⟩ = some (.slice none 0 0) := (cell_of_blk p2 1).trans rfl
        have z2 : W3.cell? ⟨w.heap.size + 1, 2, none⟩ = some (.slice none 0 0) := (cell_of_blk p2 2).trans rfl
        have z3 : W3.cell? ⟨w.heap.size + 1, 3, none⟩ = some (.slice none 0 0) := (cell_of_blk p2 3).trans rfl
        have f0 := frozen_of_blk p2 0
        have f1 := frozen_of_blk p2 1
        have f2 := frozen_of_blk p2 2
        have f3 := frozen_of_blk p2 3
        clear hW3 hc3 p1 p2 m0 m1 m2 m3 mf k0 k1 k2 k3
        go_wp2
        clear n0 n1 n2 n3 z0 z1 z2 z3 f0 f1 f2 f3
        have P := put4 HP2.out (.int .i64 s.most) (.slice A1 s.pos c1) (.slice A2 (s.all.length - s.pos) c2) (.slice A' (setM s.marks nm s.pos).length c')
        refine bodyPost_ret (results_ct rfl _ _ (w.heap.size + 1) 34 _ (0, 0) _ rfl P.1 Try.underlying34 rfl (by kernel_rfl)) rfl ?_
        have hwW := HC.out.size
        have hWw := HC2.out.size
        refine ⟨A', c', rfl, HR2.out.chA P.2 (fun ad e h => ?_), fun ad e => ?_, ?_⟩
        · have := (hfar.out ad e).1
          omega
        · have h1 := hfar.out ad e
          have h2 := P.2.size
          have h3 := HC3.out.size
          omega
        · refine (((HC.out.trans HC2.out).trans (Ch.of_below HB1.out)).trans' HC3.out (fun _ h => h) (fun i hi e => ?_)).trans' P.2 (fun _ h => h) (fun i hi e => ?_)
          · omega
          · omega
end Go.Proofs.Ytedpjfanfhhfdaa
/- The walk of the reference's To. -/
namespace Go.Proofs.Ytedpjfanfhhfdaa
open Go.ChangeMaps Go.MapKept Go.WideShapes Go.RowKit Hist
open PUndoPlays
open Go.Proofs.YtedpjfanfhhfdaaW.PrintWords Go.Proofs.YtedpjfanfhhfdaaW.PrintLast Go.Proofs.YtedpjfanfhhfdaaW.PrintMore

/-- the fields of the reference's history -/
def cM (s : Hist) (A1 : Option Addr) (c1 : Nat) (A2 : Option Addr) (c2 : Nat) (A3 : Option Addr) (c3 : Nat) : Array Value :=
  #[.int .i64 s.most, .slice A1 s.pos c1, .slice A2 (s.all.length - s.pos) c2, .slice A3 s.marks.length c3]
def zM : Array Value := #[.int .i64 0, .slice none 0 0, .slice none 0 0, .slice none 0 0]

theorem mmark (F : Nat → Prop) (s : Hist) (nm : ByteArray) (v : Value) (w : World) (hF : ∀ i, w.heap.size ≤ i → F i) (hok : s.Ok) (h : HasM w F s v) :
    Calls Try.prog 28 #[v, .string nm] w fun e w' => ∃ v', e = .returned (.tuple #[v', .int .i64 (s.markE nm)]) ∧ HasM w' F (s.mark nm) v' ∧ Ch (fun _ => False) w w' := by
  obtain ⟨A1, c1, A2, c2, A3, c3, rfl, h⟩ := h
  by_cases hn : nm.size = 0 ∨ 20 < nm.size
  · have e1 : s.markE nm = 2 := by unfold Hist.markE; rw [if_pos hn]
    have e2 : s.mark nm = s := by unfold Hist.mark; rw [e1, if_neg (by omega)]
    rw [e1, e2]
    refine (mmark_bad s.most A1 _ c1 A2 _ c2 A3 _ c3 nm w hn).mono ?_
    rintro e w' ⟨rfl, hc⟩
    exact ⟨_, rfl, ⟨A1, c1, A2, c2, A3, c3, rfl, h.ch0 hc⟩, hc⟩
  · by_cases hf : (getM s.marks nm).isNone ∧ 16 ≤ s.marks.length
    · have e1 : s.markE nm = 7 := by unfold Hist.markE; rw [if_neg hn, if_pos hf]
      have e2 : s.mark nm = s := by unfold Hist.mark; rw [e1, if_neg (by omega)]
      rw [e1, e2]
      refine (mmark_full F s A1 c1 A2 c2 A3 c3 nm w hok h (by omega) (by omega) (idx_none (by simpa using hf.1)) hf.2).mono ?_
      rintro e w' ⟨rfl, hc⟩
      exact ⟨_, rfl, ⟨A1, c1, A2, c2, A3, c3, rfl, h.ch0 hc⟩, hc⟩
    · have e1 : s.markE nm = 0 := by unfold Hist.markE; rw [if_neg hn, if_neg hf]
      have e2 : s.mark nm = { s with marks := setM s.marks nm s.pos } := by unfold Hist.mark; rw [if_pos e1]
      rw [e1, e2]
      refine (mmark_new F s A1 c1 A2 c2 A3 c3 nm w hok h (by omega) (by omega) ?_).mono ?_
      · cases e : getM s.marks nm with
        | none =>
          refine .inr ?_
          rcases Nat.lt_or_ge s.marks.length 16 with h1 | h1
          · exact h1
          · exact absurd ⟨by rw [e]; rfl, h1⟩ hf
        | some v =>
          obtain ⟨i, _, h1, _⟩ := idx_some e
          exact .inl (by omega)
      · rintro e w' ⟨A', c', rfl, hr, hfar, hc⟩
        have h' := h.ch0 hc
        exact ⟨_, rfl, ⟨A1, c1, A2, c2, A', c', rfl, h'.one, h'.two, hr, h'.far1, h'.far2, fun ad e => ⟨hF _ (hfar ad e).1, (hfar ad e).2⟩⟩, hc⟩

set_option maxRecDepth 100000 in
set_option maxHeartbeats 1000000 in
theorem mto_none (F : Nat → Prop) (s : Hist) (A1 : Option Addr) (c1 : Nat) (A2 : Option Addr) (c2 : Nat) (A3 : Option Addr) (c3 : Nat) (nm : ByteArray) (w : World) (hok : s.Ok) (h : IsM w F s A1 c1 A2 c2 A3 c3)
    (hi : idxM s.marks nm = -1) :
    Calls Try.prog 29 #[vM s A1 c1 A2 c2 A3 c3, .string nm] w fun e w' => e = .returned (.tuple #[vM s A1 c1 A2 c2 A3 c3, .slice none 0 0, .int .i64 8]) ∧ Ch (fun _ => False) w w' := by
  have hu34 := Try.underlying34
  obtain ⟨W, hW⟩ : ∃ W, W = (w.alloc (.cells #[.int .i64 s.most, .slice A1 s.pos c1, .slice A2 (s.all.length - s.pos) c2, .slice A3 s.marks.length c3] 34)).alloc (.cells #[.int .i64 0, .slice none 0 0, .slice none 0 0, .slice none 0 0] 34) := ⟨_, rfl⟩
  have b1 := alloc2_low w (.cells #[.int .i64 s.most, .slice A1 s.pos c1, .slice A2 (s.all.length - s.pos) c2, .slice A3 s.marks.length c3] 34) (.cells #[.int .i64 0, .slice none 0 0, .slice none 0 0, .slice none 0 0] 34)
  have b2 := alloc2_top w (.cells #[.int .i64 s.most, .slice A1 s.pos c1, .slice A2 (s.all.length - s.pos) c2, .slice A3 s.marks.length c3] 34) (.cells #[.int .i64 0, .slice none 0 0, .slice none 0 0, .slice none 0 0] 34)
  rw [← hW] at b1 b2
  have hch : Ch (fun _ => False) w W := by rw [hW]; exact ch_alloc2 _ _ _
  have HF := Lib.hid (mfind F s nm W hok (h.ch0 hch))
  rw [hi] at HF
  unfold vM at HF ⊢
  have HC := Lib.hid hch
  clear hch h hi hok
  have B1 := Lib.hid b1
  have B2 := Lib.hid b2
  clear b1 b2
  go_enter Try.func29, Try.ntmps29
  go_upto_region 1 with (fail)
  rw [← hW]
  clear hW
  have b1 := B1.out
  have g0 : W.cell? ⟨w.heap.size, 0, none⟩ = some (.int .i64 s.most) := by rw [cell_of_blk b1]; rfl
  have g1 : W.cell? ⟨w.heap.size, 1, none⟩ = some (.slice A1 s.pos c1) := by rw [cell_of_blk b1]; rfl
  have g2 : W.cell? ⟨w.heap.size, 2, none⟩ = some (.slice A2 (s.all.length - s.pos) c2) := by rw [cell_of_blk b1]; rfl
  have g3 : W.cell? ⟨w.heap.size, 3, none⟩ = some (.slice A3 s.marks.length c3) := by rw [cell_of_blk b1]; rfl
  clear b1
  go_wp2_with fail
  refine HF.out.mono ?_
  rintro e w2 ⟨rfl, hc2⟩
  have bb1 := hc2.blk B1.out (fun h => h)
  have bb2 := hc2.blk B2.out (fun h => h)
  have k0 : w2.cell? ⟨w.heap.size, 0, none⟩ = some (.int .i64 s.most) := by rw [cell_of_blk bb1]; rfl
  have k1 : w2.cell? ⟨w.heap.size, 1, none⟩ = some (.slice A1 s.pos c1) := by rw [cell_of_blk bb1]; rfl
  have k2 : w2.cell? ⟨w.heap.size, 2, none⟩ = some (.slice A2 (s.all.length - s.pos) c2) := by rw [cell_of_blk bb1]; rfl
  have k3 : w2.cell? ⟨w.heap.size, 3, none⟩ = some (.slice A3 s.marks.length c3) := by rw [cell_of_blk bb1]; rfl
  have z0 : w2.cell? ⟨w.heap.size + 1, 0, none⟩ = some (.int .i64 0) := by rw [cell_of_blk bb2]; rfl
  have z1 : w2.cell? ⟨w.heap.size + 1, 1, none⟩ = some (.slice none 0 0) := by rw [cell_of_blk bb2]; rfl
  have z2 : w2.cell? ⟨w.heap.size + 1, 2, none⟩ = some (.slice none 0 0) := by rw [cell_of_blk bb2]; rfl
  have z3 : w2.cell? ⟨w.heap.size + 1, 3, none⟩ = some (.slice none 0 0) := by rw [cell_of_blk bb2]; rfl
  have f0 := frozen_of_blk bb2 0
  have f1 := frozen_of_blk bb2 1
  have f2 := frozen_of_blk bb2 2
  have f3 := frozen_of_blk bb2 3
  have HC2 := Lib.hid hc2
  have HB2 := Lib.hid bb2
  clear hc2 bb1 bb2 g0 g1 g2 g3
  go_wp2
  clear k0 k1 k2 k3 z0 z1 z2 z3 f0 f1 f2 f3
  have P := put4 HB2.out (.int .i64 s.most) (.slice A1 s.pos c1) (.slice A2 (s.all.length - s.pos) c2) (.slice A3 s.marks.length c3)
  refine bodyPost_ret (results_ctt rfl _ _ (w.heap.size + 1) 34 _ (0, 0) _ rfl P.1 Try.underlying34 rfl (by kernel_rfl)) rfl ?_
  exact ⟨rfl, (HC.out.trans HC2.out).trans' P.2 (fun _ h => h) (fun i hi e => by omega)⟩


/-! ### the two loops -/
def FT (F : Nat → Prop) (bx : Nat) (v : Value) (i : Nat) : Prop := F i ∧ i ≠ bx ∧ some i ≠ v.ownBlock ∧ i ≠ bx + 1
structure MTo (w2 : World) (bx : Nat) (F : Nat → Prop) (s : Hist) (q : Nat) (ys : List Int) (v : Value) (wr : World) (A1 : Option Addr) (c1 : Nat) (A2 : Option Addr) (c2 : Nat) (A3 : Option Addr) (c3 : Nat) : Prop where
  blk : wr.heap[bx]? = some (.cells #[.int .i64 s.most, .slice A1 q c1, .slice A2 (s.all.length - q) c2, .slice A3 s.marks.length c3] 34 (0, 0))
  is : IsM wr (FT F bx v) (s.goto q) A1 c1 A2 c2 A3 c3
  own : wr.ownsRow w2.heap.size 3 1 v ys.length (ys.map (Value.int .i64))
  ch : Ch (· = bx) w2 wr
def posB (bx : Nat) (w : World) : Nat := match w.cell? ⟨bx, 1, none⟩ with | some (.slice _ n _) => n | _ => 0
theorem posB_eq {w : World} {bx q : Nat} {A : Option Addr} {c : Nat} (h : w.cell? ⟨bx, 1, none⟩ = some (.slice A q c)) : posB bx w = q := by unfold posB; rw [h]
def MDown (w2 : World) (bx : Nat) (F : Nat → Prop) (s : Hist) (t : Nat) (v : Value) (wr : World) : Prop := ∃ q A1 c1 A2 c2 A3 c3, t ≤ q ∧ q ≤ s.pos ∧ MTo w2 bx F s q (((s.all.take s.pos).drop q).reverse) v wr A1 c1 A2 c2 A3 c3
def MUp (w2 : World) (bx : Nat) (F : Nat → Prop) (s : Hist) (t : Nat) (v : Value) (wr : World) : Prop := ∃ q A1 c1 A2 c2 A3 c3, s.pos ≤ q ∧ q ≤ t ∧ MTo w2 bx F s q ((s.all.take q).drop s.pos) v wr A1 c1 A2 c2 A3 c3
theorem own_block_ge {w : World} {base n : Nat} {e : TypeId} {size : Nat} {v : Value} {xs : List Value} (h : w.ownsRow base e size v n xs) {g : Nat} (hg : v.ownBlock = some g) : base ≤ g ∧ g < w.heap.size := ⟨own_base h g hg, own_lt h g hg⟩
/-- how one round leaves it -/
theorem MTo.step {w2 wr W9 w9 : World} {bx : Nat} {F : Nat → Prop} {s : Hist} {q q' : Nat} {ys : List Int} {v v9 : Value} {A1 : Option Addr} {c1 : Nat} {A2 : Option Addr} {c2 : Nat} {A3 : Option Addr} {c3 : Nat} {B1 : Option Addr} {d1 : Nat} {B2 : Option Addr} {d2 : Nat} {B3 : Option Addr} {d3 : Nat} {x : Int}
    (h : MTo w2 bx F s q ys v wr A1 c1 A2 c2 A3 c3) (hb2 : bx < w2.heap.size) (hc : Ch (· = bx) wr W9) (hblk : W9.heap[bx]? = some (.cells #[.int .i64 s.most, .slice B1 q' d1, .slice B2 (s.all.length - q') d2, .slice B3 s.marks.length d3] 34 (0, 0)))
    (his : IsM W9 (FT F bx v) (s.goto q') B1 d1 B2 d2 B3 d3) (hown : w9.ownsRow w2.heap.size 3 1 v9 (ys.length + 1) (ys.map (Value.int .i64) ++ [.int .i64 x])) (hg : (W9.alloc (.cells #[.int .i64 x] 3)).grownBy w9 v.ownBlock)
    (hat : v9.ownBlock = v.ownBlock ∨ v9.ownBlock = some (W9.alloc (.cells #[.int .i64 x] 3)).heap.size) :
    MTo w2 bx F s q' (ys ++ [x]) v9 w9 B1 d1 B2 d2 B3 d3 := by
  have hvb : ∀ g, v.ownBlock = some g → w2.heap.size ≤ g ∧ g < wr.heap.size := fun g e => own_block_ge h.own e
  have hbw : bx < W9.heap.size := blk_size hblk
  have hal : (W9.alloc (.cells #[.int .i64 x] 3)).heap.size = W9.heap.size + 1 := by simp
  have hcg : Ch (fun i => some i = v.ownBlock) (W9.alloc (.cells #[.int .i64 x] 3)) w9 := ⟨hg.os, hg.tape, hg.output, hg.size, fun i hi hne => hg.block i hi hne⟩
  have hc9 : Ch (fun i => some i = v.ownBlock) W9 w9 := (((Ch.refl (fun _ => False) W9).alloc (.cells #[.int .i64 x] 3))).trans' hcg (fun _ h => h.elim) (fun _ _ h => h)
  have hbne : some bx ≠ v.ownBlock := fun e => by have := (hvb bx e.symm).1; omega
  refine ⟨hc9.blk hblk hbne, ?_, ?_, ?_⟩
  · have h1 : IsM W9 (fun i => FT F bx v i ∧ some i ≠ v9.ownBlock) (s.goto q') B1 d1 B2 d2 B3 d3 := his.imp fun i hi hl => ⟨hi, by
      rcases hat with e | e
      · rw [e]; exact hi.2.2.1
      · rw [e, hal]
        intro e2
        have : i = W9.heap.size + 1 := by simpa using e2
        omega⟩
    exact (h1.ch hc9 (fun i hi => hi.1.2.2.1)).imp fun i hi _ => ⟨hi.1.1, hi.1.2.1, hi.2, hi.1.2.2.2⟩
  · rw [List.length_append, List.map_append]; exact hown
  · refine (h.ch.trans hc).trans' hc9 (fun _ h => h) (fun i hi e => ?_)
    have := (hvb i e.symm).1
    omega

set_option maxRecDepth 100000 in
set_option maxHeartbeats 4000000 in
theorem mto_down (F : Nat → Prop) (s : Hist) (A1 : Option Addr) (c1 : Nat) (A2 : Option Addr) (c2 : Nat) (A3 : Option Addr) (c3 : Nat) (nm : ByteArray) (w : World) (hok : s.Ok) (h : IsM w F s A1 c1 A2 c2 A3 c3)
    (ix : Int) (hi : idxM s.marks nm = ix) (hix0 : 0 ≤ ix) (hix1 : ix < (s.marks.length : Int)) (t : Nat) (hq : rd_T71 (s.marks.map mk71) ix = mk71 (nm, (t : Int))) (ht : t ≤ s.pos) (hF : ∀ i, w.heap.size ≤ i → F i) :
    Calls Try.prog 29 #[vM s A1 c1 A2 c2 A3 c3, .string nm] w fun e w' => ∃ v' A' c', e = .returned (.tuple #[v', .slice A' (s.between t).length c', .int .i64 0]) ∧ HasM w' F (s.goto t) v' ∧ Row w' A' c' (s.between t) ∧ Ch (fun _ => False) w w' := by
  have hu34 := Try.underlying34
  obtain ⟨W, hW⟩ : ∃ W, W = (w.alloc (.cells #[.int .i64 s.most, .slice A1 s.pos c1, .slice A2 (s.all.length - s.pos) c2, .slice A3 s.marks.length c3] 34)).alloc (.cells #[.int .i64 0, .slice none 0 0, .slice none 0 0, .slice none 0 0] 34) := ⟨_, rfl⟩
  have b1 := alloc2_low w (.cells #[.int .i64 s.most, .slice A1 s.pos c1, .slice A2 (s.all.length - s.pos) c2, .slice A3 s.marks.length c3] 34) (.cells #[.int .i64 0, .slice none 0 0, .slice none 0 0, .slice none 0 0] 34)
  have b2 := alloc2_top w (.cells #[.int .i64 s.most, .slice A1 s.pos c1, .slice A2 (s.all.length - s.pos) c2, .slice A3 s.marks.length c3] 34) (.cells #[.int .i64 0, .slice none 0 0, .slice none 0 0, .slice none 0 0] 34)
  rw [← hW] at b1 b2
  have hch : Ch (fun _ => False) w W := by rw [hW]; exact ch_alloc2 _ _ _
  have HF := Lib.hid (mfind F s nm W hok (h.ch0 hch))
  rw [hi] at HF
  have HI := Lib.hid h
  have HOK := Lib.hid hok
  unfold vM at HF ⊢
  have HC := Lib.hid hch
  clear hch h hi hok
  have B1 := Lib.hid b1
  have B2 := Lib.hid b2
  clear b1 b2
  go_enter Try.func29, Try.ntmps29
  go_upto_region 1 with (fail)
  rw [← hW]
  clear hW
  have b1 := B1.out
  have g0 : W.cell? ⟨w.heap.size, 0, none⟩ = some (.int .i64 s.most) := by rw [cell_of_blk b1]; rfl
  have g1 : W.cell? ⟨w.heap.size, 1, none⟩ = some (.slice A1 s.pos c1) := by rw [cell_of_blk b1]; rfl
  have g2 : W.cell? ⟨w.heap.size, 2, none⟩ = some (.slice A2 (s.all.length - s.pos) c2) := by rw [cell_of_blk b1]; rfl
  have g3 : W.cell? ⟨w.heap.size, 3, none⟩ = some (.slice A3 s.marks.length c3) := by rw [cell_of_blk b1]; rfl
  clear b1
  go_wp2_with fail
  refine HF.out.mono ?_
  rintro e w2 ⟨rfl, hc2⟩
  have bb1 := hc2.blk B1.out (fun h => h)
  have bb2 := hc2.blk B2.out (fun h => h)
  have k0 : w2.cell? ⟨w.heap.size, 0, none⟩ = some (.int .i64 s.most) := by rw [cell_of_blk bb1]; rfl
  have k1 : w2.cell? ⟨w.heap.size, 1, none⟩ = some (.slice A1 s.pos c1) := by rw [cell_of_blk bb1]; rfl
  have k2 : w2.cell? ⟨w.heap.size, 2, none⟩ = some (.slice A2 (s.all.length - s.pos) c2) := by rw [cell_of_blk bb1]; rfl
  have k3 : w2.cell? ⟨w.heap.size, 3, none⟩ = some (.slice A3 s.marks.length c3) := by rw [cell_of_blk bb1]; rfl
  have z0 : w2.cell? ⟨w.heap.size + 1, 0, none⟩ = some (.int .i64 0) := by rw [cell_of_blk bb2]; rfl
  have z1 : w2.cell? ⟨w.heap.size + 1, 1, none⟩ = some (.slice none 0 0) := by rw [cell_of_blk bb2]; rfl
  have z2 : w2.cell? ⟨w.heap.size + 1, 2, none⟩ = some (.slice none 0 0) := by rw [cell_of_blk bb2]; rfl
  have z3 : w2.cell? ⟨w.heap.size + 1, 3, none⟩ = some (.slice none 0 0) := by rw [cell_of_blk bb2]; rfl
  have f0 := frozen_of_blk bb2 0
  have f1 := frozen_of_blk bb2 1
  have f2 := frozen_of_blk bb2 2
  have f3 := frozen_of_blk bb2 3
  have HC2 := Lib.hid hc2
  have HB1 := Lib.hid bb1
  have HB2 := Lib.hid bb2
  have hrow : k71.C w2 A3 s.marks.length (s.marks.map mk71) := ((HI.out.ch0 HC.out).ch0 hc2).three.read
  obtain ⟨ad, hA3, e0, e1⟩ := at_T71 hrow ix hix0 hix1
  rw [hq] at e1
  replace e1 : w2.cell? ⟨(ad.add (ix.toNat * 2)).block, (ad.add (ix.toNat * 2)).off + 1, none⟩ = some (.int .i64 (t : Int)) := e1
  have hlw : w.heap.size < w2.heap.size := blk_size bb1
  have hlz : w.heap.size + 1 < w2.heap.size := blk_size bb2
  have hst : MTo w2 w.heap.size F s s.pos [] (.slice none 0 0) w2 A1 c1 A2 c2 A3 c3 :=
    ⟨bb1, ((HI.out.imp (G := FT F w.heap.size (.slice none 0 0)) (fun i hi hl => ⟨hi, by omega, by simp [Value.ownBlock], by omega⟩)).ch0 HC.out).ch0 hc2, by simpa using World.ownsRow_nil w2 w2.heap.size 3 1, Ch.refl _ _⟩
  have HST := Lib.hid hst
  have HHF := Lib.hid hF
  subst hA3
  clear hc2 bb1 bb2 g0 g1 g2 g3 hrow hq e0 hst hF
  obtain ⟨i0, hi0, hz0, hz1, hz2⟩ := info_parts Ytedpjfanfhhfdaa.info3
  have hpos := HOK.out.pos
  have hall := HOK.out.all
  have hmost := HOK.out.most
  have hixf : ¬ ix < 0 := by omega
  go_wp2_with fail
  clear k0 k1 k2 k3 z0 z1 z2 z3 f0 f1 f2 f3 e1
  go_loopw [9] (fun v wr => MDown w2 w.heap.size F s t v wr) (fun _ wr => posB w.heap.size wr)
  case atStart => exact ⟨s.pos, A1, c1, A2, c2, some ad, c3, ht, Nat.le_refl _, by rw [List.drop_of_length_le (by rw [List.length_take]; omega)]; exact HST.out⟩
  case round =>
    obtain ⟨p, B1, d1, B2, d2, B3, d3, hp1, hp2, hR⟩ := hrel
    have k0 : wr.cell? ⟨w.heap.size, 0, none⟩ = some (.int .i64 s.most) := (cell_of_blk hR.blk 0).trans rfl
    have k1 : wr.cell? ⟨w.heap.size, 1, none⟩ = some (.slice B1 p d1) := (cell_of_blk hR.blk 1).trans rfl
    have k2 : wr.cell? ⟨w.heap.size, 2, none⟩ = some (.slice B2 (s.all.length - p) d2) := (cell_of_blk hR.blk 2).trans rfl
    have k3 : wr.cell? ⟨w.heap.size, 3, none⟩ = some (.slice B3 s.marks.length d3) := (cell_of_blk hR.blk 3).trans rfl
    have hsz := hR.ch.size
    have HR := Lib.hid hR
    have HU := Lib.hid (posB_eq k1)
    clear hR
    by_cases hlt : t < p
    · obtain ⟨q, rfl⟩ : ∃ q, p = q + 1 := ⟨p - 1, by omega⟩
      have hb := mback (FT F w.heap.size u9) (s.goto (q + 1)) (vM (s.goto (q + 1)) B1 d1 B2 d2 B3 d3) wr (fun i hi => ⟨HHF.out i (by omega), by omega, (fun e => by have := (own_block_ge HR.out.own e.symm).2; omega), by omega⟩) (ok_goto HOK.out (by omega)) ⟨_, _, _, _, _, _, rfl, HR.out.is⟩
      rw [goto_back, Nat.add_sub_cancel] at hb
      have ev : (s.goto (q + 1)).backV = s.all.getD q 0 := by
        unfold Hist.backV
        rw [if_neg (show ¬ (s.goto (q + 1)).pos = 0 from by show ¬ q + 1 = 0; omega)]
        rfl
      obtain ⟨y, hy⟩ : ∃ y, y = (s.goto (q + 1)).backE := ⟨_, rfl⟩
      obtain ⟨x, hx⟩ : ∃ x, x = s.all.getD q 0 := ⟨_, rfl⟩
      rw [ev, ← hy, ← hx] at hb
      have HBK := Lib.hid hb
      have HX := Lib.hid hx
      have hlt2 : (t : Int) < ((q + 1 : Nat) : Int) := by omega
      clear hb ev hx hy
      unfold vM at HBK
      replace HBK := Lib.hid (show Calls Try.prog 26 #[.agg #[.int .i64 s.most, .slice B1 (q + 1) d1, .slice B2 (s.all.length - (q + 1)) d2, .slice B3 s.marks.length d3]] wr fun e w' => ∃ C1 e1 C2 e2 C3 e3, e = .returned (.tuple #[.agg #[.int .i64 s.most, .slice C1 q e1, .slice C2 (s.all.length - q) e2, .slice C3 s.marks.length e3], .int .i64 x, .int .i64 y]) ∧ IsM w' (FT F w.heap.size u9) (s.goto q) C1 e1 C2 e2 C3 e3 ∧ Ch (fun _ => False) wr w' from
        Calls.mono HBK.out (by rintro e w' ⟨v', rfl, ⟨C1, e1, C2, e2, C3, e3, rfl, his⟩, hc⟩; exact ⟨C1, e1, C2, e2, C3, e3, rfl, his, hc⟩))
      go_upto_region 8 with (go_at_call 26; refine HBK.out.mono ?_; rintro e w5 ⟨C1, e1, C2, e2, C3, e3, rfl, his, hc5⟩; have H5 := Lib.hid (show _ ∧ _ from ⟨his, hc5⟩); clear his hc5)
      obtain ⟨W8, hW8⟩ : ∃ W8, W8 = w5.alloc (.cells #[.int .i64 s.most, .slice C1 q e1, .slice C2 (s.all.length - q) e2, .slice C3 s.marks.length e3] 34) := ⟨_, rfl⟩
      have hc8 : Ch (fun _ => False) wr W8 := by rw [hW8]; exact H5.out.2.alloc _
      have q1 := (MapKept.heap_alloc w5 (.cells #[.int .i64 s.most, .slice C1 q e1, .slice C2 (s.all.length - q) e2, .slice C3 s.marks.length e3] 34)).1
      have q2 := hc8.blk HR.out.blk (fun h => h)
      have hi8 := H5.out.1.ch0 ((Ch.refl (fun _ => False) w5).alloc (.cells #[.int .i64 s.most, .slice C1 q e1, .slice C2 (s.all.length - q) e2, .slice C3 s.marks.length e3] 34))
      have hz8 := H5.out.2.size
      rw [← hW8] at q1 hi8
      try rw [← hW8]
      have n0 : W8.cell? ⟨w5.heap.size, 0, none⟩ = some (.int .i64 s.most) := (cell_of_blk q1 0).trans rfl
      have n1 : W8.cell? ⟨w5.heap.size, 1, none⟩ = some (.slice C1 q e1) := (cell_of_blk q1 1).trans rfl
      have n2 : W8.cell? ⟨w5.heap.size, 2, none⟩ = some (.slice C2 (s.all.length - q) e2) := (cell_of_blk q1 2).trans rfl
      have n3 : W8.cell? ⟨w5.heap.size, 3, none⟩ = some (.slice C3 s.marks.length e3) := (cell_of_blk q1 3).trans rfl
      have o0 : W8.cell? ⟨w.heap.size, 0, none⟩ = some (.int .i64 s.most) := (cell_of_blk q2 0).trans rfl
      have o1 : W8.cell? ⟨w.heap.size, 1, none⟩ = some (.slice B1 (q + 1) d1) := (cell_of_blk q2 1).trans rfl
      have o2 : W8.cell? ⟨w.heap.size, 2, none⟩ = some (.slice B2 (s.all.length - (q + 1)) d2) := (cell_of_blk q2 2).trans rfl
      have o3 : W8.cell? ⟨w.heap.size, 3, none⟩ = some (.slice B3 s.marks.length d3) := (cell_of_blk q2 3).trans rfl
      have p0 := frozen_of_blk q2 0
      have p1 := frozen_of_blk q2 1
      have p2 := frozen_of_blk q2 2
      have p3 := frozen_of_blk q2 3
      have H8 := Lib.hid (show _ ∧ _ ∧ _ from ⟨hc8, q2, hi8⟩)
      have HW8 := Lib.hid hW8
      clear hc8 q1 q2 hi8 hW8 k0 k1 k2 k3
      go_upto_region 9 with (fail)
      have P := put4 H8.out.2.1 (.int .i64 s.most) (.slice C1 q e1) (.slice C2 (s.all.length - q) e2) (.slice C3 s.marks.length e3)
      obtain ⟨W9, hW9⟩ : ∃ W9, W9 = (((W8.setCell ⟨w.heap.size, 0, none⟩ (.int .i64 s.most)).setCell ⟨w.heap.size, 1, none⟩ (.slice C1 q e1)).setCell ⟨w.heap.size, 2, none⟩ (.slice C2 (s.all.length - q) e2)).setCell ⟨w.heap.size, 3, none⟩ (.slice C3 s.marks.length e3) := ⟨_, rfl⟩
      rw [← hW9] at P ⊢
      have hc9 : Ch (· = w.heap.size) wr W9 := (H8.out.1.mono (fun _ _ h => h.elim)).trans P.2
      have hi9 := H8.out.2.2.ch P.2 (fun i hi e => hi.2.1 e)
      have ho9 := own_ch HR.out.own hc9 (fun i hi e => by omega)
      have hl9 : ((s.all.take s.pos).drop (q + 1)).reverse.length ≤ 256 := by rw [List.length_reverse, List.length_drop, List.length_take]; omega
      have hs9 := hc9.size
      have H9 := Lib.hid (show _ ∧ _ ∧ _ ∧ _ ∧ _ from ⟨hc9, P.1, hi9, ho9, hl9⟩)
      clear hW9 P hc9 hi9 ho9 n0 n1 n2 n3 o0 o1 o2 o3 p0 p1 p2 p3 hl9
      go_wp2_with (at_builtin; refine Go.wpList_append_own_at _ rfl _ _ 26 rfl w2.heap.size 3 i0 (.int .i64 0) 1 8 Try.underlying26 hi0 hz0 hz1 hz2 rfl (by decide) _ _ _ rfl (own_ch H9.out.2.2.2.1 ((Ch.refl (fun _ => False) W9).alloc _) (fun _ _ h => h)) ⟨W9.heap.size, 0, none⟩ 1 1 [.int .i64 x] rfl rfl (cell_one_new _ _ _) (by simp [Value.oneCell']) ?a1 ?a2 ?a3 ?_; (case a1 => have := H9.out.2.2.2.2; unfold maxLen; omega); (case a2 => have := H9.out.2.2.2.2; omega); (case a3 => simp; omega); intro v9 w9 hown' hgrow _ hat; have HO := Lib.hid hown'; have HG := Lib.hid hgrow; have HA := Lib.hid hat; clear hown' hgrow hat)
      go_roundw
      case rel =>
        have hx : ((s.all.take s.pos).drop q).reverse = ((s.all.take s.pos).drop (q + 1)).reverse ++ [x] := by rw [down_step s q (by rw [List.length_take]; omega), HX.out]
        exact ⟨q, C1, e1, C2, e2, C3, e3, by omega, by omega, by rw [hx]; exact HR.out.step hlw H9.out.1 H9.out.2.1 H9.out.2.2.1 HO.out HG.out HA.out⟩
      case measure =>
        have S := HR.out.step hlw H9.out.1 H9.out.2.1 H9.out.2.2.1 HO.out HG.out HA.out
        rw [HU.out, posB_eq ((cell_of_blk S.blk 1).trans rfl)]
        exact Nat.lt_succ_self q
    · obtain rfl : p = t := by omega
      have hB : ((s.all.take s.pos).drop p).reverse = s.between p := by unfold Hist.between; rw [if_pos hp2]
      rw [hB] at HR
      obtain ⟨A', c', hu, hrow⟩ := Row.of_own HR.out.own
      subst hu
      have bz := HR.out.ch.blk HB2.out (by omega)
      have z0 : wr.cell? ⟨w.heap.size + 1, 0, none⟩ = some (.int .i64 0) := (cell_of_blk bz 0).trans rfl
      have z1 : wr.cell? ⟨w.heap.size + 1, 1, none⟩ = some (.slice none 0 0) := (cell_of_blk bz 1).trans rfl
      have z2 : wr.cell? ⟨w.heap.size + 1, 2, none⟩ = some (.slice none 0 0) := (cell_of_blk bz 2).trans rfl
      have z3 : wr.cell? ⟨w.heap.size + 1, 3, none⟩ = some (.slice none 0 0) := (cell_of_blk bz 3).trans rfl
      have f0 := frozen_of_blk bz 0
      have f1 := frozen_of_blk bz 1
      have f2 := frozen_of_blk bz 2
      have f3 := frozen_of_blk bz 3
      have HZ := Lib.hid bz
      have HRW := Lib.hid hrow
      obtain ⟨n, hn⟩ : ∃ n, n = (s.between p).length := ⟨_, rfl⟩
      rw [← hn]
      have HNN := Lib.hid hn
      clear bz hrow hB hn
      go_wp2
      go_loopw [9] (fun v wr' => v = .slice A' n c' ∧ wr' = wr) (fun _ _ => 0)
      case atStart => exact ⟨rfl, rfl⟩
      case round =>
        obtain ⟨rfl, rfl⟩ := hrel
        go_wp2
        clear k0 k1 k2 k3 z0 z1 z2 z3 f0 f1 f2 f3
        have P := put4 HZ.out (.int .i64 s.most) (.slice B1 p d1) (.slice B2 (s.all.length - p) d2) (.slice B3 s.marks.length d3)
        refine bodyPost_ret (results_ctt rfl _ _ (w.heap.size + 1) 34 _ (0, 0) _ rfl P.1 Try.underlying34 rfl (by kernel_rfl)) rfl ?_
        refine ⟨_, A', c', by rw [← HNN.out]; rfl, ⟨B1, d1, B2, d2, B3, d3, rfl, ?_⟩, ?_, ?_⟩
        · exact (HR.out.is.ch P.2 (fun i hi e => hi.2.2.2 e)).imp (fun i hi _ => hi.1)
        · refine HRW.out.chA P.2 (fun _ ad e h => ?_)
          subst e
          have := (own_block_ge HR.out.own (g := ad.block) rfl).1
          omega
        · have hw1 := HC.out.size
          exact (((HC.out.trans HC2.out).trans' HR.out.ch (fun _ h => h) (fun i hi e => by omega)).trans' P.2 (fun _ h => h) (fun i hi e => by omega))

/-! ### upward -/
set_option maxRecDepth 100000 in
set_option maxHeartbeats 4000000 in
theorem mto_up (F : Nat → Prop) (s : Hist) (A1 : Option Addr) (c1 : Nat) (A2 : Option Addr) (c2 : Nat) (A3 : Option Addr) (c3 : Nat) (nm : ByteArray) (w : World) (hok : s.Ok) (h : IsM w F s A1 c1 A2 c2 A3 c3)
    (ix : Int) (hi : idxM s.marks nm = ix) (hix0 : 0 ≤ ix) (hix1 : ix < (s.marks.length : Int)) (t : Nat) (hq : rd_T71 (s.marks.map mk71) ix = mk71 (nm, (t : Int))) (ht : s.pos < t) (ht2 : t ≤ s.all.length) (hF : ∀ i, w.heap.size ≤ i → F i) :
    Calls Try.prog 29 #[vM s A1 c1 A2 c2 A3 c3, .string nm] w fun e w' => ∃ v' A' c', e = .returned (.tuple #[v', .slice A' (s.between t).length c', .int .i64 0]) ∧ HasM w' F (s.goto t) v' ∧ Row w' A' c' (s.between t) ∧ Ch (fun _ => False) w w' := by
  have hu34 := Try.underlying34
  obtain ⟨W, hW⟩ : ∃ W, W = (w.alloc (.cells #[.int .i64 s.most, .slice A1 s.pos c1, .slice A2 (s.all.length - s.pos) c2, .slice A3 s.marks.length c3] 34)).alloc (.cells #[.int .i64 0, .slice none 0 0, .slice none 0 0, .slice none 0 0] 34) := ⟨_, rfl⟩
  have b1 := alloc2_low w (.cells #[.int .i64 s.most, .slice A1 s.pos c1, .slice A2 (s.all.length - s.pos) c2, .slice A3 s.marks.length c3] 34) (.cells #[.int .i64 0, .slice none 0 0, .slice none 0 0, .slice none 0 0] 34)
  have b2 := alloc2_top w (.cells #[.int .i64 s.most, .slice A1 s.pos c1, .slice A2 (s.all.length - s.pos) c2, .slice A3 s.marks.length c3] 34) (.cells #[.int .i64 0, .slice none 0 0, .slice none 0 0, .slice none 0 0] 34)
  rw [← hW] at b1 b2
  have hch : Ch (fun _ => False) w W := by rw [hW]; exact ch_alloc2 _ _ _
  have HF := Lib.hid (mfind F s nm W hok (h.ch0 hch))
  rw [hi] at HF
  have HI := Lib.hid h
  have HOK := Lib.hid hok
  unfold vM at HF ⊢
  have HC := Lib.hid hch
  clear hch h hi hok
  have B1 := Lib.hid b1
  have B2 := Lib.hid b2
  clear b1 b2
  go_enter Try.func29, Try.ntmps29
  go_upto_region 1 with (fail)
  rw [← hW]
  clear hW
  have b1 := B1.out
  have g0 : W.cell? ⟨w.heap.size, 0, none⟩ = some (.int .i64 s.most) := by rw [cell_of_blk b1]; rfl
  have g1 : W.cell? ⟨w.heap.size, 1, none⟩ = some (.slice A1 s.pos c1) := by rw [cell_of_blk b1]; rfl
  have g2 : W.cell? ⟨w.heap.size, 2, none⟩ = some (.slice A2 (s.all.length - s.pos) c2) := by rw [cell_of_blk b1]; rfl
  have g3 : W.cell? ⟨w.heap.size, 3, none⟩ = some (.slice A3 s.marks.length c3) := by rw [cell_of_blk b1]; rfl
  clear b1
  go_wp2_with fail
  refine HF.out.mono ?_
  rintro e w2 ⟨rfl, hc2⟩
  have bb1 := hc2.blk B1.out (fun h => h)
  have bb2 := hc2.blk B2.out (fun h => h)
  have k0 : w2.cell? ⟨w.heap.size, 0, none⟩ = some (.int .i64 s.most) := by rw [cell_of_blk bb1]; rfl
  have k1 : w2.cell? ⟨w.heap.size, 1, none⟩ = some (.slice A1 s.pos c1) := by rw [cell_of_blk bb1]; rfl
  have k2 : w2.cell? ⟨w.heap.size, 2, none⟩ = some (.slice A2 (s.all.length - s.pos) c2) := by rw [cell_of_blk bb1]; rfl
  have k3 : w2.cell? ⟨w.heap.size, 3, none⟩ = some (.slice A3 s.marks.length c3) := by rw [cell_of_blk bb1]; rfl
  have z0 : w2.cell? ⟨w.heap.size + 1, 0, none⟩ = some (.int .i64 0) := by rw [cell_of_blk bb2]; rfl
  have z1 : w2.cell? ⟨w.heap.size + 1, 1, none⟩ = some (.slice none 0 0) := by rw [cell_of_blk bb2]; rfl
  have z2 : w2.cell? ⟨w.heap.size + 1, 2, none⟩ = some (.slice none 0 0) := by rw [cell_of_blk bb2]; rfl
  have z3 : w2.cell? ⟨w.heap.size + 1, 3, none⟩ = some (.slice none 0 0) := by rw [cell_of_blk bb2]; rfl
  have f0 := frozen_of_blk bb2 0
  have f1 := frozen_of_blk bb2 1
  have f2 := frozen_of_blk bb2 2
  have f3 := frozen_of_blk bb2 3
  have HC2 := Lib.hid hc2
  have HB1 := Lib.hid bb1
  have HB2 := Lib.hid bb2
  have hrow : k71.C w2 A3 s.marks.length (s.marks.map mk71) := ((HI.out.ch0 HC.out).ch0 hc2).three.read
  obtain ⟨ad, hA3, e0, e1⟩ := at_T71 hrow ix hix0 hix1
  rw [hq] at e1
  replace e1 : w2.cell? ⟨(ad.add (ix.toNat * 2)).block, (ad.add (ix.toNat * 2)).off + 1, none⟩ = some (.int .i64 (t : Int)) := e1
  have hlw : w.heap.size < w2.heap.size := blk_size bb1
  have hlz : w.heap.size + 1 < w2.heap.size := blk_size bb2
  have hst : MTo w2 w.heap.size F s s.pos [] (.slice none 0 0) w2 A1 c1 A2 c2 A3 c3 :=
    ⟨bb1, ((HI.out.imp (G := FT F w.heap.size (.slice none 0 0)) (fun i hi hl => ⟨hi, by omega, by simp [Value.ownBlock], by omega⟩)).ch0 HC.out).ch0 hc2, by simpa using World.ownsRow_nil w2 w2.heap.size 3 1, Ch.refl _ _⟩
  have HST := Lib.hid hst
  have HHF := Lib.hid hF
  subst hA3
  clear hc2 bb1 bb2 g0 g1 g2 g3 hrow hq e0 hst hF
  obtain ⟨i0, hi0, hz0, hz1, hz2⟩ := info_parts Ytedpjfanfhhfdaa.info3
  have hpos := HOK.out.pos
  have hall := HOK.out.all
  have hmost := HOK.out.most
  have hixf : ¬ ix < 0 := by omega
  go_wp2_with fail
  go_loopw [9] (fun v wr => v = .slice none 0 0 ∧ w2 = wr) (fun _ _ => 0)
  case atStart => exact ⟨rfl, rfl⟩
  case round =>
    obtain ⟨rfl, rfl⟩ := hrel
    have hnd : ¬ (t : Int) < (s.pos : Int) := by omega
    go_upto_region 10 with (fail)
    clear k0 k1 k2 k3 z0 z1 z2 z3 f0 f1 f2 f3 e1
    go_loopw [9] (fun v wr => MUp w2 w.heap.size F s t v wr) (fun _ wr => t - posB w.heap.size wr)
    case atStart => exact ⟨s.pos, A1, c1, A2, c2, some ad, c3, Nat.le_refl _, by omega, by rw [List.drop_of_length_le (by rw [List.length_take]; omega)]; exact HST.out⟩
    case round =>
      obtain ⟨p, B1, d1, B2, d2, B3, d3, hp1, hp2, hR⟩ := hrel
      have k0 : wr.cell? ⟨w.heap.size, 0, none⟩ = some (.int .i64 s.most) := (cell_of_blk hR.blk 0).trans rfl
      have k1 : wr.cell? ⟨w.heap.size, 1, none⟩ = some (.slice B1 p d1) := (cell_of_blk hR.blk 1).trans rfl
      have k2 : wr.cell? ⟨w.heap.size, 2, none⟩ = some (.slice B2 (s.all.length - p) d2) := (cell_of_blk hR.blk 2).trans rfl
      have k3 : wr.cell? ⟨w.heap.size, 3, none⟩ = some (.slice B3 s.marks.length d3) := (cell_of_blk hR.blk 3).trans rfl
      have hsz := hR.ch.size
      have HR := Lib.hid hR
      have HU := Lib.hid (posB_eq k1)
      clear hR
      by_cases hlt : p < t
      · have hb := magain (FT F w.heap.size u9) (s.goto p) (vM (s.goto p) B1 d1 B2 d2 B3 d3) wr (fun i hi => ⟨HHF.out i (by omega), by omega, (fun e => by have := (own_block_ge HR.out.own e.symm).2; omega), by omega⟩) (ok_goto HOK.out (by omega)) ⟨_, _, _, _, _, _, rfl, HR.out.is⟩
        rw [goto_again, if_neg (show ¬ p = s.all.length by omega)] at hb
        have ev : (s.goto p).againV = s.all.getD p 0 := by
          unfold Hist.againV
          rw [if_neg (show ¬ (s.goto p).pos = (s.goto p).all.length from by show ¬ p = s.all.length; omega)]
          rfl
        obtain ⟨y, hy⟩ : ∃ y, y = (s.goto p).againE := ⟨_, rfl⟩
        obtain ⟨x, hx⟩ : ∃ x, x = s.all.getD p 0 := ⟨_, rfl⟩
        rw [ev, ← hy, ← hx] at hb
        have HBK := Lib.hid hb
        have HX := Lib.hid hx
        have hlt2 : (p : Int) < (t : Int) := by omega
        clear hb ev hx hy
        unfold vM at HBK
        replace HBK := Lib.hid (show Calls Try.prog 27 #[.agg #[.int .i64 s.most, .slice B1 p d1, .slice B2 (s.all.length - p) d2, .slice B3 s.marks.length d3]] wr fun e w' => ∃ C1 e1 C2 e2 C3 e3, e = .returned (.tuple #[.agg #[.int .i64 s.most, .slice C1 (p + 1) e1, .slice C2 (s.all.length - (p + 1)) e2, .slice C3 s.marks.length e3], .int .i64 x, .int .i64 y]) ∧ IsM w' (FT F w.heap.size u9) (s.goto (p + 1)) C1 e1 C2 e2 C3 e3 ∧ Ch (fun _ => False) wr w' from
          Calls.mono HBK.out (by rintro e w' ⟨v', rfl, ⟨C1, e1, C2, e2, C3, e3, rfl, his⟩, hc⟩; exact ⟨C1, e1, C2, e2, C3, e3, rfl, his, hc⟩))
        go_upto_region 12 with (go_at_call 27; refine HBK.out.mono ?_; rintro e w5 ⟨C1, e1, C2, e2, C3, e3, rfl, his, hc5⟩; have H5 := Lib.hid (show _ ∧ _ from ⟨his, hc5⟩); clear his hc5)
        obtain ⟨W8, hW8⟩ : ∃ W8, W8 = w5.alloc (.cells #[.int .i64 s.most, .slice C1 (p + 1) e1, .slice C2 (s.all.length - (p + 1)) e2, .slice C3 s.marks.length e3] 34) := ⟨_, rfl⟩
        have hc8 : Ch (fun _ => False) wr W8 := by rw [hW8]; exact H5.out.2.alloc _
        have q1 := (MapKept.heap_alloc w5 (.cells #[.int .i64 s.most, .slice C1 (p + 1) e1, .slice C2 (s.all.length - (p + 1)) e2, .slice C3 s.marks.length e3] 34)).1
        have q2 := hc8.blk HR.out.blk (fun h => h)
        have hi8 := H5.out.1.ch0 ((Ch.refl (fun _ => False) w5).alloc (.cells #[.int .i64 s.most, .slice C1 (p + 1) e1, .slice C2 (s.all.length - (p + 1)) e2, .slice C3 s.marks.length e3] 34))
        have hz8 := H5.out.2.size
        rw [← hW8] at q1 hi8
        try rw [← hW8]
        have n0 : W8.cell? ⟨w5.heap.size, 0, none⟩ = some (.int .i64 s.most) := (cell_of_blk q1 0).trans rfl
        have n1 : W8.cell? ⟨w5.heap.size, 1, none⟩ = some (.slice C1 (p + 1) e1) := (cell_of_blk q1 1).trans rfl
        have n2 : W8.cell? ⟨w5.heap.size, 2, none⟩ = some (.slice C2 (s.all.length - (p + 1)) e2) := (cell_of_blk q1 2).trans rfl
        have n3 : W8.cell? ⟨w5.heap.size, 3, none⟩ = some (.slice C3 s.marks.length e3) := (cell_of_blk q1 3).trans rfl
        have o0 : W8.cell? ⟨w.heap.size, 0, none⟩ = some (.int .i64 s.most) := (cell_of_blk q2 0).trans rfl
        have o1 : W8.cell? ⟨w.heap.size, 1, none⟩ = some (.slice B1 p d1) := (cell_of_blk q2 1).trans rfl
        have o2 : W8.cell? ⟨w.heap.size, 2, none⟩ = some (.slice B2 (s.all.length - p) d2) := (cell_of_blk q2 2).trans rfl
        have o3 : W8.cell? ⟨w.heap.size, 3, none⟩ = some (.slice B3 s.marks.length d3) := (cell_of_blk q2 3).trans rfl
        have p0 := frozen_of_blk q2 0
        have p1 := frozen_of_blk q2 1
        have p2 := frozen_of_blk q2 2
        have p3 := frozen_of_blk q2 3
        have H8 := Lib.hid (show _ ∧ _ ∧ _ from ⟨hc8, q2, hi8⟩)
        have HW8 := Lib.hid hW8
        clear hc8 q1 q2 hi8 hW8 k0 k1 k2 k3
        go_upto_region 13 with (fail)
        have P := put4 H8.out.2.1 (.int .i64 s.most) (.slice C1 (p + 1) e1) (.slice C2 (s.all.length - (p + 1)) e2) (.slice C3 s.marks.length e3)
        obtain ⟨W9, hW9⟩ : ∃ W9, W9 = (((W8.setCell ⟨w.heap.size, 0, none⟩ (.int .i64 s.most)).setCell ⟨w.heap.size, 1, none⟩ (.slice C1 (p + 1) e1)).setCell ⟨w.heap.size, 2, none⟩ (.slice C2 (s.all.length - (p + 1)) e2)).setCell ⟨w.heap.size, 3, none⟩ (.slice C3 s.marks.length e3) := ⟨_, rfl⟩
        rw [← hW9] at P ⊢
        have hc9 : Ch (· = w.heap.size) wr W9 := (H8.out.1.mono (fun _ _ h => h.elim)).trans P.2
        have hi9 := H8.out.2.2.ch P.2 (fun i hi e => hi.2.1 e)
        have ho9 := own_ch HR.out.own hc9 (fun i hi e => by omega)
        have hl9 : ((s.all.take p).drop s.pos).length ≤ 256 := by rw [List.length_drop, List.length_take]; omega
        have hs9 := hc9.size
        have H9 := Lib.hid (show _ ∧ _ ∧ _ ∧ _ ∧ _ from ⟨hc9, P.1, hi9, ho9, hl9⟩)
        clear hW9 P hc9 hi9 ho9 n0 n1 n2 n3 o0 o1 o2 o3 p0 p1 p2 p3 hl9
        go_wp2_with (at_builtin; refine Go.wpList_append_own_at _ rfl _ _ 26 rfl w2.heap.size 3 i0 (.int .i64 0) 1 8 Try.underlying26 hi0 hz0 hz1 hz2 rfl (by decide) _ _ _ rfl (own_ch H9.out.2.2.2.1 ((Ch.refl (fun _ => False) W9).alloc _) (fun _ _ h => h)) ⟨W9.heap.size, 0, none⟩ 1 1 [.int .i64 x] rfl rfl (cell_one_new _ _ _) (by simp [Value.oneCell']) ?a1 ?a2 ?a3 ?_; (case a1 => have := H9.out.2.2.2.2; unfold maxLen; omega); (case a2 => have := H9.out.2.2.2.2; omega); (case a3 => simp; omega); intro v9 w9 hown' hgrow _ hat; have HO := Lib.hid hown'; have HG := Lib.hid hgrow; have HA := Lib.hid hat; clear hown' hgrow hat)
        go_roundw
        case rel =>
          have hx : (s.all.take (p + 1)).drop s.pos = (s.all.take p).drop s.pos ++ [x] := by rw [up_step s s.pos p (by omega) (by omega), HX.out]
          exact ⟨p + 1, C1, e1, C2, e2, C3, e3, by omega, by omega, by rw [hx]; exact HR.out.step hlw H9.out.1 H9.out.2.1 H9.out.2.2.1 HO.out HG.out HA.out⟩
        case measure =>
          have S := HR.out.step hlw H9.out.1 H9.out.2.1 H9.out.2.2.1 HO.out HG.out HA.out
          rw [HU.out, posB_eq ((cell_of_blk S.blk 1).trans rfl)]
          omega
      · obtain rfl : p = t := by omega
        have hB : (s.all.take p).drop s.pos = s.between p := by unfold Hist.between; rw [if_neg (by omega)]
        rw [hB] at HR
        obtain ⟨A', c', hu, hrow⟩ := Row.of_own HR.out.own
        subst hu
        have bz := HR.out.ch.blk HB2.out (by omega)
        have z0 : wr.cell? ⟨w.heap.size + 1, 0, none⟩ = some (.int .i64 0) := (cell_of_blk bz 0).trans rfl
        have z1 : wr.cell? ⟨w.heap.size + 1, 1, none⟩ = some (.slice none 0 0) := (cell_of_blk bz 1).trans rfl
        have z2 : wr.cell? ⟨w.heap.size + 1, 2, none⟩ = some (.slice none 0 0) := (cell_of_blk bz 2).trans rfl
        have z3 : wr.cell? ⟨w.heap.size + 1, 3, none⟩ = some (.slice none 0 0) := (cell_of_blk bz 3).trans rfl
        have f0 := frozen_of_blk bz 0
        have f1 := frozen_of_blk bz 1
        have f2 := frozen_of_blk bz 2
        have f3 := frozen_of_blk bz 3
        have HZ := Lib.hid bz
        have HRW := Lib.hid hrow
        obtain ⟨n, hn⟩ : ∃ n, n = (s.between p).length := ⟨_, rfl⟩
        rw [← hn]
        have HNN := Lib.hid hn
        clear bz hrow hB hn
        go_wp2
        clear k0 k1 k2 k3 z0 z1 z2 z3 f0 f1 f2 f3
        have P := put4 HZ.out (.int .i64 s.most) (.slice B1 p d1) (.slice B2 (s.all.length - p) d2) (.slice B3 s.marks.length d3)
        refine bodyPost_ret (results_ctt rfl _ _ (w.heap.size + 1) 34 _ (0, 0) _ rfl P.1 Try.underlying34 rfl (by kernel_rfl)) rfl ?_
        refine ⟨_, A', c', by rw [← HNN.out]; rfl, ⟨B1, d1, B2, d2, B3, d3, rfl, ?_⟩, ?_, ?_⟩
        · exact (HR.out.is.ch P.2 (fun i hi e => hi.2.2.2 e)).imp (fun i hi _ => hi.1)
        · refine HRW.out.chA P.2 (fun _ ad e h => ?_)
          subst e
          have := (own_block_ge HR.out.own (g := ad.block) rfl).1
          omega
        · have hw1 := HC.out.size
          exact (((HC.out.trans HC2.out).trans' HR.out.ch (fun _ h => h) (fun i hi e => by omega)).trans' P.2 (fun _ h => h) (fun i hi e => by omega))
end Go.Proofs.Ytedpjfanfhhfdaa
