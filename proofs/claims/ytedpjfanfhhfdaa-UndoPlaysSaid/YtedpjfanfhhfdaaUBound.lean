/- The walk of UndoBound. -/
import Derived.Test.YtedpjfanfhhfdaaULives
namespace Go.Proofs.Ytedpjfanfhhfdaa
open Go.ChangeMaps Go.MapKept Go.WideShapes Go.RowKit Hist

theorem act_most (s : Hist) (a : Act1) : (s.act a).most = s.most := by
  unfold Hist.act Hist.backS Hist.againS Hist.mark toP
  split
  · split <;> rfl
  · split
    · split <;> rfl
    · split
      · split <;> rfl
      · split
        · cases getM s.marks a.name <;> rfl
        · rfl
theorem fold_most (l : List Act1) : ∀ s : Hist, (l.foldl Hist.act s).most = s.most := by
  induction l with
  | nil => intro s; rfl
  | cons a r ih => intro s; rw [List.foldl_cons, ih, act_most]

theorem run_min (w : World) (ats : Array TypeId) (ty : TypeId) (a b : Int) : (Builtin.min_ ats ty #[.int .i64 a, .int .i64 b]).run Try.prog w = .ok (.int .i64 (if b < a then b else a)) w := by
  simp only [Builtin.min_, List.foldlM_cons, List.foldlM_nil, Builtin.min2]
  rfl
theorem run_max (w : World) (ats : Array TypeId) (ty : TypeId) (a b : Int) : (Builtin.max_ ats ty #[.int .i64 a, .int .i64 b]).run Try.prog w = .ok (.int .i64 (if a < b then b else a)) w := by
  simp only [Builtin.max_, List.foldlM_cons, List.foldlM_nil, Builtin.max2, gt_iff_lt]
  rfl

/-- what stands at a place behind Push -/
theorem push_at {s : Hist} (h : s.Ok) (x : Int) {i k : Nat} (hi : i < (s.push x).pos) (hk : k + (s.push x).pos = s.pos + 1 + i) :
    ((s.push x).all.take (s.push x).pos).getD i 0 = if k < s.pos then (s.all.take s.pos).getD k 0 else x := by
  have h1 := h.pos
  have hg : s.gone ≤ s.pos + 1 := by unfold Hist.gone; omega
  have hk2 : k + (s.pos + 1 - s.gone) = s.pos + 1 + i := hk
  obtain rfl : k = s.gone + i := by omega
  have hi2 : i < s.pos + 1 - s.gone := hi
  show (((s.all1 x).drop s.gone).take (s.pos + 1 - s.gone)).getD i 0 = _
  rw [List.getD_eq_getElem?_getD, List.getElem?_take_of_lt hi2, List.getElem?_drop]
  unfold Hist.all1
  have hl : (s.all.take s.pos).length = s.pos := by rw [List.length_take]; omega
  by_cases hlt : s.gone + i < s.pos
  · rw [if_pos hlt, List.getElem?_append_left (by rw [hl]; exact hlt), List.getD_eq_getElem?_getD]
  · rw [if_neg hlt, List.getElem?_append_right (by rw [hl]; omega), hl]
    have : s.gone + i - s.pos = 0 := by omega
    rw [this]
    rfl
theorem push_all {s : Hist} (h : s.Ok) (x : Int) : (s.push x).all.length = (s.push x).pos := by
  simp only [Hist.push, List.length_drop, len_all1 h x]
theorem push_pos {s : Hist} (h : s.Ok) (x : Int) : (s.push x).pos = min s.most (s.pos + 1) := by
  have := h.pos
  have := h.all
  simp only [Hist.push, Hist.gone]
  omega

theorem DoneRel.sh {w wr : World} {hb mb : Nat} {s : Hist} (h : DoneRel w hb mb s wr) {w' : World} (hc : Ch (SH hb mb) wr w') : Ch (fun _ => False) w w' := by
  obtain ⟨_, h2, h3, h4⟩ := h
  refine h2.trans' hc (fun _ h => h) ?_
  rintro i hi (rfl | rfl) <;> omega

def BoundLoop (n : Nat) (w7 : World) (i : Value) (wr : World) : Prop := ∃ k : Nat, k ≤ n ∧ i = .int .i64 k ∧ wr = w7

set_option maxRecDepth 100000 in
set_option maxHeartbeats 4000000 in
theorem bound_walk (most : Int) (A : Option Addr) (c : Nat) (l : List Act1) (x : Int) (w : World) (hl : Acts w A l) (hbig : l.length ≤ 9223372036854775807) (hsm : ∀ a ∈ l, a.name.size ≤ maxLen) :
    Calls Try.prog 3 #[.int .i64 most, .slice A l.length c, .int .i64 x] w fun e w' => e = .returned (.bool true) ∧ Ch (fun _ => False) w w' := by
  obtain ⟨s, hs⟩ : ∃ s, s = l.foldl Hist.act (Hist.new most) := ⟨_, rfl⟩
  have hd := done_law most A c l w hl hbig hsm
  rw [← hs] at hd
  have HD := Lib.hid hd
  have hm : s.most = (Hist.new most).most := by rw [hs, fold_most]
  obtain ⟨n, hn⟩ : ∃ n, n = l.length := ⟨_, rfl⟩
  rw [← hn] at HD hbig ⊢
  clear hl hsm hs hd hn
  by_cases hbn : 300 < n
  · go_enter Try.func3, Try.ntmps3
    go_wp2_with (first
      | (go_at_call 7; refine HD.out.mono ?_; rintro e w1 ⟨hb, mb, rfl, h1⟩; have H1 := Lib.hid h1; clear h1)
      | (go_at_call 8; refine (lives_true _).mono ?_; rintro e w2 ⟨rfl, h2⟩; have H2 := Lib.hid h2; clear h2))
    go_ret
    exact ⟨rfl, H1.out.2.1.trans H2.out⟩
  · obtain ⟨may, hmay⟩ : ∃ may, may = s.most := ⟨_, rfl⟩
    have hmv : (if (0 : Int) < (if 256 < most then 256 else most) then (if 256 < most then 256 else most) else 0) = (may : Int) := by rw [hmay, hm]; simp only [Hist.new]; split <;> split <;> omega
    obtain ⟨m1, hm1⟩ : ∃ m1, m1 = (if 256 < most then 256 else most) := ⟨_, rfl⟩
    rw [← hm1] at hmv
    have r1 : ∀ (w : World) (ats : Array TypeId) (ty : TypeId), (Builtin.min_ ats ty #[.int .i64 most, .int .i64 256]).run Try.prog w = .ok (.int .i64 m1) w := fun w ats ty => by rw [run_min, ← hm1]
    have r2 : ∀ (w : World) (ats : Array TypeId) (ty : TypeId), (Builtin.max_ ats ty #[.int .i64 0, .int .i64 m1]).run Try.prog w = .ok (.int .i64 may) w := fun w ats ty => by rw [run_max, hmv]
    have HMAY := Lib.hid hmay
    clear hmv hm1 hmay hm
    go_enter Try.func3, Try.ntmps3
    go_wp2_with (go_at_call 7; refine HD.out.mono ?_; rintro e w1 ⟨hb, mb, rfl, h1⟩; have H1 := Lib.hid h1; clear h1)
    clear r1 r2
    have hok : s.Ok := by obtain ⟨_, _, _, _, h⟩ := H1.out.1; exact h.ok
    have hp := hok.pos
    have ha := hok.all
    have hm := hok.most
    rw [← HMAY.out] at ha hm
    obtain ⟨p, hpe⟩ : ∃ p, p = s.pos := ⟨_, rfl⟩
    obtain ⟨q, hqe⟩ : ∃ q, q = s.all.length - s.pos := ⟨_, rfl⟩
    obtain ⟨p', hpe'⟩ : ∃ p', p' = (s.push x).pos := ⟨_, rfl⟩
    have hp'2 : p' = min may (p + 1) := by rw [hpe', push_pos hok x, HMAY.out, hpe]
    have hsum : p + q ≤ may := by omega
    have r3 : ∀ (w : World) (ats : Array TypeId) (ty : TypeId), (Builtin.min_ ats ty #[.int .i64 (may : Int), .int .i64 ((p : Int) + 1)]).run Try.prog w = .ok (.int .i64 (p' : Int)) w := fun w ats ty => by
      rw [run_min, hp'2]
      congr 2
      split <;> omega
    have hq0 : (s.push x).all.length - (s.push x).pos = 0 := by rw [push_all hok x]; omega
    have hp1 : p' ≤ p + 1 := by omega
    have hp2 : p ≤ 256 := by omega
    have HP := Lib.hid (show p = s.pos ∧ q = s.all.length - s.pos ∧ p' = (s.push x).pos ∧ (s.push x).all.length - (s.push x).pos = 0 ∧ s.Ok from ⟨hpe, hqe, hpe', hq0, hok⟩)
    clear hok hp ha hpe hqe hpe' hp'2 hq0
    go_wp2_with fail
    refine (done_any hb mb s w1 H1.out.1).mono ?_
    rintro e w2 ⟨A1, c1, he, hr, hc⟩
    obtain rfl : e = .returned (.slice A1 p c1) := by rw [he, HP.out.1]
    have H2 := Lib.hid (show Hs w2 hb mb s ∧ Ch (SH hb mb) w1 w2 from ⟨H1.out.1.ch0 hc, hc.mono (fun _ _ h => h.elim)⟩)
    clear he hr hc
    go_wp2_with fail
    refine (undone_any hb mb s w2 H2.out.1).mono ?_
    rintro e w3 ⟨A2, c2, he, hr, hc⟩
    obtain rfl : e = .returned (.slice A2 q c2) := by rw [he, HP.out.2.1]
    have H3 := Lib.hid (show Hs w3 hb mb s ∧ Ch (SH hb mb) w1 w3 from ⟨H2.out.1.ch0 hc, H2.out.2.trans (hc.mono (fun _ _ h => h.elim))⟩)
    clear he hr hc
    go_wp2_with fail
    refine (done_any hb mb s w3 H3.out.1).mono ?_
    rintro e w4 ⟨A3, c3, he, hr, hc⟩
    obtain rfl : e = .returned (.slice A3 p c3) := by rw [he, HP.out.1]
    have H4 := Lib.hid (show Hs w4 hb mb s ∧ Ch (SH hb mb) w1 w4 ∧ Row w4 A3 c3 (s.all.take s.pos) from ⟨H3.out.1.ch0 hc, H3.out.2.trans (hc.mono (fun _ _ h => h.elim)), hr⟩)
    clear he hr hc
    go_wp2_with fail
    refine (push_any hb mb s x w4 H4.out.1).mono ?_
    rintro e w5 ⟨rfl, hs, hc⟩
    have H5 := Lib.hid (show Hs w5 hb mb (s.push x) ∧ Ch (SH hb mb) w1 w5 ∧ Row w5 A3 c3 (s.all.take s.pos) from ⟨hs, H4.out.2.1.trans hc, H4.out.2.2.sh H4.out.1 hc⟩)
    clear hs hc
    go_wp2_with fail
    refine (done_any hb mb (s.push x) w5 H5.out.1).mono ?_
    rintro e w6 ⟨A4, c4, he, hr, hc⟩
    obtain rfl : e = .returned (.slice A4 p' c4) := by rw [he, HP.out.2.2.1]
    have H6 := Lib.hid (show Hs w6 hb mb (s.push x) ∧ Ch (SH hb mb) w1 w6 ∧ Row w6 A3 c3 (s.all.take s.pos) ∧ Row w6 A4 c4 ((s.push x).all.take (s.push x).pos) from ⟨H5.out.1.ch0 hc, H5.out.2.1.trans (hc.mono (fun _ _ h => h.elim)), H5.out.2.2.ch0 hc, hr⟩)
    clear he hr hc
    go_wp2_with fail
    refine (undone_any hb mb (s.push x) w6 H6.out.1).mono ?_
    rintro e w7 ⟨A5, c5, he, hr, hc⟩
    obtain rfl : e = .returned (.slice A5 0 c5) := by rw [he, HP.out.2.2.2.1]
    have H7 := Lib.hid (show Ch (fun _ => False) w w7 ∧ Row w7 A3 c3 (s.all.take s.pos) ∧ Row w7 A4 c4 ((s.push x).all.take (s.push x).pos) from ⟨H1.out.sh (H6.out.2.1.trans (hc.mono (fun _ _ h => h.elim))), H6.out.2.2.1.ch0 hc, H6.out.2.2.2.ch0 hc⟩)
    clear he hr hc
    go_wp2
    clear r3
    go_loopw [11] (fun i wr => BoundLoop p' w7 i wr) (fun i _ => p' - (intOf i).toNat)
    case atStart => exact ⟨0, Nat.zero_le _, rfl, rfl⟩
    case round =>
      obtain ⟨i, hi, rfl, rfl⟩ := hrel
      by_cases hlt : i < p'
      · obtain ⟨j, hj⟩ : ∃ j, j + p' = p + 1 + i := ⟨p + 1 + i - p', by omega⟩
        have hat := push_at HP.out.2.2.2.2 x (i := i) (k := j) (by rw [← HP.out.2.2.1]; exact hlt) (by rw [← HP.out.2.2.1, ← HP.out.1]; exact hj)
        obtain ⟨b4, o4, rfl, e4⟩ := H7.out.2.2.at_ (i := i) (by have h1 := H7.out.2.2.1; rw [List.length_take, push_all HP.out.2.2.2.2, ← HP.out.2.2.1, Nat.min_self]; exact hlt)
        rw [hat, ← HP.out.1] at e4
        obtain ⟨ej⟩ : Nonempty (j = p + 1 - p' + i) := ⟨by omega⟩
        have hpl : p ≤ s.all.length := by rw [HP.out.1]; exact HP.out.2.2.2.2.pos
        by_cases hjp : j < p
        · rw [if_pos hjp] at e4
          obtain ⟨b3, o3, rfl, e3⟩ := H7.out.2.1.at_ (i := j) (by rw [← HP.out.1, List.length_take]; omega)
          rw [← HP.out.1] at e3
          obtain ⟨y, hy⟩ : ∃ y, y = (s.all.take p).getD j 0 := ⟨_, rfl⟩
          rw [← hy] at e3 e4
          have t1 : (p : Int) + 1 - (p' : Int) + (i : Int) < (p : Int) := by omega
          have t2 : 0 ≤ (p : Int) + 1 - (p' : Int) + (i : Int) := by omega
          rw [ej] at e3
          clear hat hj ej hjp hy hpl
          go_wp2
          go_roundw
          case rel => exact ⟨i + 1, hlt, by go_num, rfl⟩
          case measure => simp [intOf]; omega
        · rw [if_neg hjp] at e4
          have t1 : ¬ (p : Int) + 1 - (p' : Int) + (i : Int) < (p : Int) := by omega
          clear hat hj ej hjp hpl
          go_wp2
          go_roundw
          case rel => exact ⟨i + 1, hlt, by go_num, rfl⟩
          case measure => simp [intOf]; omega
      · go_wp2_with (go_at_call 8; refine (lives_true _).mono ?_; rintro e w8 ⟨rfl, h2⟩; have H8 := Lib.hid h2; clear h2)
        go_ret
        exact ⟨rfl, H7.out.1.trans H8.out⟩
end Go.Proofs.Ytedpjfanfhhfdaa
