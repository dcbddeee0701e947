/- The walks of New, Undone and Mark. -/
import Derived.Test.YtedpjfanfhhfdaaUPush
namespace Go.Proofs.Ytedpjfanfhhfdaa
open Go.ChangeMaps Go.MapKept Go.WideShapes Go.RowKit Hist

def NewPost (w : World) (most : Int) (e : Ending) (w' : World) : Prop :=
  ∃ hb mb, e = .returned (.pointer (some ⟨hb, 0, none⟩)) ∧ Hs w' hb mb (Hist.new most) ∧ Ch (fun _ => False) w w' ∧ w.heap.size ≤ hb ∧ w.heap.size ≤ mb

theorem new_hs (w : World) (most : Int) (m : Int) (hm : m = ((Hist.new most).most : Int)) :
    Hs ((w.alloc (.map #[] 0)).alloc (.cells #[.int .i64 m, .int .i64 0, .slice none 0 0, .map (some w.heap.size)] 55)) (w.heap.size + 1) w.heap.size (Hist.new most) ∧
    Ch (fun _ => False) w ((w.alloc (.map #[] 0)).alloc (.cells #[.int .i64 m, .int .i64 0, .slice none 0 0, .map (some w.heap.size)] 55)) := by
  subst hm
  refine ⟨⟨none, 0, [], 0, ?_, Row.nil _, ⟨?_, by simp, by simp, by simp, by simp⟩, by simp [Hist.new], ok_new most⟩, ((Ch.refl _ w).alloc _).alloc _⟩
  · have := (MapKept.heap_alloc (w.alloc (.map #[] 0)) (.cells #[.int .i64 ((Hist.new most).most : Int), .int .i64 0, .slice none 0 0, .map (some w.heap.size)] 55)).1
    simp only [World.size_alloc] at this
    exact this
  · have h1 := (MapKept.heap_alloc w (.map #[] 0)).1
    have h2 := (MapKept.heap_alloc (w.alloc (.map #[] 0)) (.cells #[.int .i64 ((Hist.new most).most : Int), .int .i64 0, .slice none 0 0, .map (some w.heap.size)] 55)).2 w.heap.size (by simp)
    exact h2.trans h1

set_option maxHeartbeats 400000 in
theorem new_any (most : Int) (w : World) : Calls Try.prog 12 #[.int .i64 most] w (NewPost w most) := by
  have hmm := @run_makeMap Try.prog
  go_enter Try.func12, Try.ntmps12
  go_wp2
  all_goals go_ret
  · have P := new_hs w most 256 (by simp only [Hist.new]; omega)
    exact ⟨_, _, rfl, P.1, P.2, by omega, Nat.le_refl _⟩
  · have P := new_hs w most most (by simp only [Hist.new]; omega)
    exact ⟨_, _, rfl, P.1, P.2, by omega, Nat.le_refl _⟩
  · have P := new_hs w most 0 (by simp only [Hist.new]; omega)
    exact ⟨_, _, rfl, P.1, P.2, by omega, Nat.le_refl _⟩

set_option maxRecDepth 100000 in
set_option maxHeartbeats 400000 in
theorem undone_any (hb mb : Nat) (s : Hist) (w : World) (h : Hs w hb mb s) :
    Calls Try.prog 10 #[.pointer (some ⟨hb, 0, none⟩)] w fun e w' => ∃ A' c', e = .returned (.slice A' (s.all.length - s.pos) c') ∧ Row w' A' c' (s.all.drop s.pos) ∧ Ch (fun _ => False) w w' := by
  obtain ⟨A, c, L, clk, h⟩ := h
  have h1 := h.c1
  have h2 := h.c2
  have h3 := h.c3
  have hpos := h.ok.pos
  have hmost := h.ok.most
  have hall := h.ok.all
  have hr := h.row.drop (k := s.pos) hpos
  have hcut := cut_l A s.all.length c s.pos hpos
  obtain ⟨xs, hxs⟩ : ∃ xs, xs = s.all.drop s.pos := ⟨_, rfl⟩
  obtain ⟨k, hk⟩ : ∃ k, k = s.pos := ⟨_, rfl⟩
  obtain ⟨n, hn⟩ : ∃ n, n = s.all.length := ⟨_, rfl⟩
  obtain ⟨m, hm⟩ : ∃ m, m = n - k := ⟨_, rfl⟩
  have hl : xs.length = m := by rw [hxs, List.length_drop, hm, hk, hn]
  rw [← hxs] at hr ⊢
  rw [← hk] at h1 hcut hr ⊢
  rw [← hn] at h2 hcut ⊢
  rw [← hm] at hcut ⊢
  have HR := Lib.hid (show Row w (cutA A c k) (c - k) xs ∧ xs.length = m from ⟨hr, hl⟩)
  have hkn : k ≤ n := by omega
  have hn2 : n ≤ 256 := by omega
  have hm2 : m ≤ 256 := by omega
  obtain ⟨B, hB⟩ : ∃ B, B = cutA A c k := ⟨_, rfl⟩
  obtain ⟨d, hd⟩ : ∃ d, d = c - k := ⟨_, rfl⟩
  rw [← hB, ← hd] at hcut HR
  clear h hr hl hxs hk hn hpos hmost hall hm hB hd
  go_enter Try.func10, Try.ntmps10
  go_wp2_with (go_at_call 23; refine (made_any hb mb _ h3).mono ?_; rintro e w' ⟨rfl, rfl⟩)
  go_still_tail 9, (by kernel_rfl)
  change wpList _ _ _ _ _ w.drew
  have hl := HR.out.2
  subst hl
  go_wp2_with (go_at_call 24; refine (clone_any B d xs w.drew HR.out.1 (by omega)).mono ?_; rintro e w' ⟨A', c', rfl, hr', hch⟩; have HR' := Lib.hid hr'; have HC' := Lib.hid hch; clear hr' hch)
  go_ret
  exact ⟨A', c', rfl, HR'.out, (Ch.drew (Ch.refl _ w)).trans HC'.out⟩

/-! ### Mark -/
theorem setM_perm {L : List Ent} {M : List (ByteArray × Int)} (hp : (L.map pair).Perm M) (hn : (L.map (·.key)).Nodup) (clk : Nat) (n : ByteArray) (v : Int) : ((putE L clk n v).map pair).Perm (setM M n v) := by
  unfold putE setM
  have h1 : (M.filter (fun p => decide (p.1 ≠ n)) ++ [(n, v)]).Perm ((L.map pair).filter (fun p => decide (p.1 ≠ n)) ++ [(n, v)]) := (hp.symm.filter _).append_right _
  refine List.Perm.trans ?_ h1.symm
  rw [List.filter_map]
  cases e : (getE L n).isSome with
  | false =>
    have hne := getE_isNone e
    have e2 : L.filter ((fun p : ByteArray × Int => decide (p.1 ≠ n)) ∘ pair) = L := List.filter_eq_self.2 (fun x hx => decide_eq_true (show (pair x).1 ≠ n from hne x hx))
    rw [e2, if_neg (by simp), List.map_append]
    exact List.Perm.refl _
  | true =>
    obtain ⟨x, hx, rfl⟩ := getE_some e
    rw [if_pos rfl]
    clear e h1 hp
    induction L with
    | nil => cases hx
    | cons y r ih =>
      simp only [List.map_cons, List.nodup_cons] at hn
      by_cases hy : y.key = x.key
      · have hr : ∀ z ∈ r, z.key ≠ x.key := fun z hz e => hn.1 (by rw [hy, ← e]; exact List.mem_map.2 ⟨z, hz, rfl⟩)
        have e1 : r.map (upd x.key v) = r := by
          conv => rhs; rw [← List.map_id r]
          exact List.map_congr_left (fun z hz => by simp [upd, hr z hz])
        have e2 : r.filter ((fun p : ByteArray × Int => decide (p.1 ≠ x.key)) ∘ pair) = r := List.filter_eq_self.2 (fun z hz => decide_eq_true (show (pair z).1 ≠ x.key from hr z hz))
        rw [List.map_cons, List.map_cons, e1, List.filter_cons, if_neg (by simp [pair, hy]), e2]
        have e3 : pair (upd x.key v y) = (x.key, v) := by simp [upd, hy, pair]
        rw [e3]
        exact (List.perm_append_singleton _ _).symm
      · have hx' : x ∈ r := by
          rcases List.mem_cons.1 hx with rfl | h
          · exact absurd rfl hy
          · exact h
        rw [List.map_cons, List.map_cons, List.filter_cons, if_pos (show ((fun p : ByteArray × Int => decide (p.1 ≠ x.key)) ∘ pair) y = true from decide_eq_true hy), List.map_cons, List.cons_append]
        have e3 : pair (upd x.key v y) = pair y := by simp [upd, hy]
        rw [e3]
        exact (ih hn.2 hx').cons _
end Go.Proofs.Ytedpjfanfhhfdaa
