/- The walk of Push. -/
import Derived.Test.YtedpjfanfhhfdaaUWalk2
import Derived.Deep.RegionLawGrows
import Derived.BigRegion
import Derived.Deep.RegionHeld3
namespace Go.Proofs.Ytedpjfanfhhfdaa
open Go.ChangeMaps Go.MapKept Go.WideShapes Go.RowKit Hist

theorem row_snoc {w : World} {base k : Nat} {v : Value} {xs : List Int} {x : Int} (hl : xs.length = k) (h : w.ownsRow base 3 1 v (k + 1) (xs.map (Value.int .i64) ++ [.int .i64 x])) : ∃ A c, v = .slice A (k + 1) c ∧ Row w A c (xs ++ [x]) := by
  have e : xs.map (Value.int .i64) ++ [.int .i64 x] = (xs ++ [x]).map (Value.int .i64) := by simp
  rw [e] at h
  obtain ⟨A, c, rfl, hr⟩ := Row.of_own h
  exact ⟨A, c, by rw [List.length_append, hl]; rfl, hr⟩

theorem cutA_zero (A : Option Addr) (c : Nat) : cutA A c 0 = A := by
  unfold cutA
  split
  · rfl
  · cases A <;> simp [Addr.add]

theorem push_fin {hb mb : Nat} {s : Hist} {x : Int} {w w1 w2 : World} {A g : Option Addr} {c cap k m d : Nat} {L : List Ent} {clk : Nat} {xs : List Int}
    (HH1 : IsH w1 hb mb s A c L clk) (HC1 : Ch (fun _ => False) w w1) (hk : k = s.pos) (hxs : xs = s.all.take s.pos) (hm : m = s.most) (hd : d = k + 1 - m) (hl : xs.length = k)
    (hrw : Row w1 g cap (xs ++ [x])) (hm2' : MapB w2 mb (L.filterMap (stepE d k)) clk) (hch2 : Ch (· = mb) w1 w2) :
    Hs ((w2.setCell ⟨hb, 2, none⟩ (.slice (cutA g cap d) (k + 1 - d) (cap - d))).setCell ⟨hb, 1, none⟩ (.int .i64 ((k + 1 - d : Nat) : Int))) hb mb (s.push x) ∧
    Ch (SH hb mb) w ((w2.setCell ⟨hb, 2, none⟩ (.slice (cutA g cap d) (k + 1 - d) (cap - d))).setCell ⟨hb, 1, none⟩ (.int .i64 ((k + 1 - d : Nat) : Int))) := by
  have hne := HH1.ne
  have hblk2 := hch2.blk HH1.blk (fun e => hne e)
  have hg : s.gone = d := by unfold Hist.gone; rw [← hk, ← hm]; exact hd.symm
  have hx1 : s.all1 x = xs ++ [x] := by unfold Hist.all1; rw [hxs]
  have k3 : Ch (· = hb) w2 ((w2.setCell ⟨hb, 2, none⟩ (.slice (cutA g cap d) (k + 1 - d) (cap - d))).setCell ⟨hb, 1, none⟩ (.int .i64 ((k + 1 - d : Nat) : Int))) :=
    ((Ch.refl (· = hb) w2).setCell ⟨hb, 2, none⟩ (fun _ => rfl) _).setCell ⟨hb, 1, none⟩ (fun _ => rfl) _
  have hl1 : (xs ++ [x]).length = k + 1 := by rw [List.length_append, hl]; rfl
  have hrow2 : Row w2 g cap (xs ++ [x]) := hrw.ch hch2 (fun b cs fr hb' e => HH1.row_ne hb' (.inr e))
  have hrow3 := (hrow2.ch k3 (fun b cs fr hb' e => by subst e; rw [hblk2] at hb'; cases hb')).drop (k := d) (by omega)
  refine ⟨⟨cutA g cap d, cap - d, L.filterMap (stepE d k), clk, ?_, ?_, ?_, ?_, ok_push HH1.ok x⟩, ?_⟩
  · have b1 := blk_setCell hblk2 2 (.slice (cutA g cap d) (k + 1 - d) (cap - d))
    have b2 := blk_setCell b1 1 (.int .i64 ((k + 1 - d : Nat) : Int))
    rw [b2]
    simp only [Hist.push, hg, hx1, List.length_drop, hl1, ← hk, ← hm]
    rfl
  · simp only [Hist.push, hg, hx1]; exact hrow3
  · exact hm2'.ch k3 (fun e => hne e.symm)
  · simp only [Hist.push, hg, keepM, ← hk]
    refine List.Perm.trans ?_ (HH1.perm.filterMap _)
    rw [List.filterMap_map, List.map_filterMap]
    refine List.Perm.of_eq (filterMap_congr' fun y _ => ?_)
    simp only [Function.comp, stepE, stepM, pair]
    by_cases hc : y.val < (d : Int) ∨ (k : Int) < y.val
    · simp [hc]
    · simp [hc, pair]
  · exact HC1.trans' (hch2.trans' k3 (U := SH hb mb) (fun _ h => .inr h) (fun _ _ h => .inl h)) (fun _ h => h.elim) (fun _ _ h => h)

set_option maxRecDepth 100000 in
set_option maxHeartbeats 1000000 in
theorem push_any (hb mb : Nat) (s : Hist) (x : Int) (w : World) (h : Hs w hb mb s) :
    Calls Try.prog 11 #[.pointer (some ⟨hb, 0, none⟩), .int .i64 x] w fun e w' => e = .returned (.int .i64 0) ∧ Hs w' hb mb (s.push x) ∧ Ch (SH hb mb) w w' := by
  obtain ⟨A, c, L, clk, h⟩ := h
  have h1 := h.c1
  have h2 := h.c2
  have h3 := h.c3
  have hpos := h.ok.pos
  have hmost := h.ok.most
  have hall := h.ok.all
  have hc := h.row.1
  obtain ⟨k, hk⟩ : ∃ k, k = s.pos := ⟨_, rfl⟩
  obtain ⟨n, hn⟩ : ∃ n, n = s.all.length := ⟨_, rfl⟩
  obtain ⟨xs, hxs⟩ : ∃ xs, xs = s.all.take s.pos := ⟨_, rfl⟩
  have hr := h.row.takeCap (k := k) (by omega)
  rw [hk, ← hxs, ← hk] at hr
  have hl : xs.length = k := by rw [hxs, List.length_take]; omega
  have hcut := cut_hm A n c k (by omega)
  rw [← hk] at h1
  rw [← hn] at h2
  have HR := Lib.hid (show Row w A k xs ∧ xs.length = k from ⟨hr, hl⟩)
  have HH := Lib.hid h
  have hkn : k ≤ n := by omega
  have hn2 : n ≤ 256 := by omega
  obtain ⟨i0, hi, hz0, hz1, hz2⟩ := info_parts info3
  have hcell : ∀ b, A = some b → ∀ (j : Nat) (u : Value), (xs.map (Value.int .i64))[j]? = some u → (w.alloc (.cells #[.int .i64 x] 3)).drew.cell? (b.add j) = some u := fun b e j u hu => Lib.cell?_alloc_some _ (HR.out.1.cells e j u hu)
  have HC := Lib.hid hcell
  have HK := Lib.hid (show k = s.pos ∧ n = s.all.length ∧ xs = s.all.take s.pos from ⟨hk, hn, hxs⟩)
  have g1 : (w.alloc (.cells #[.int .i64 x] 3)).cell? ⟨hb, 1, none⟩ = some (.int .i64 k) := Lib.cell?_alloc_some _ h1
  have g2 : (w.alloc (.cells #[.int .i64 x] 3)).cell? ⟨hb, 2, none⟩ = some (.slice A n c) := Lib.cell?_alloc_some _ h2
  clear hcell h hr hl hxs hk hn hpos hmost hall hc
  go_enter Try.func11, Try.ntmps11
  go_wp2_with (go_at_call 23; refine (made_any hb mb _ h3).mono ?_; rintro e w' ⟨rfl, rfl⟩)
  go_region_held3 (fun w' => w'.cell? ⟨hb, 1, none⟩ = some (.int .i64 k) ∧ w'.cell? ⟨hb, 2, none⟩ = some (.slice A n c))
    (first | go_keep | (exact ⟨hgrow.cell g1 (by simp), hgrow.cell g2 (by simp)⟩))
    ((refine step_append_grows rfl (.tmp 22) (.tmp 24) 26 rfl 3 i0 (.int .i64 0) 1 8 Try.underlying26 hi hz0 hz1 hz2 rfl (by decide) A k k (xs.map (Value.int .i64)) rfl (fun e => ⟨HR.out.1.2.1 e, HR.out.1.2.1 e⟩) (by simp; exact HR.out.2) HC.out ⟨w.heap.size, 0, none⟩ 1 1 [.int .i64 x] rfl rfl (cell_one_new _ _ _) (by simp [Value.oneCell']) (by omega) (by unfold maxLen; omega) (by omega) ?_; intro v' w1 hown hgrow; obtain ⟨g, cap, rfl, hrow⟩ := row_snoc HR.out.2 hown; have HRW := Lib.hid hrow; clear hown hrow))
  have hch1 : Ch (fun _ => False) w w1 := ((Ch.refl _ w).alloc _).drew.trans (ch_grown hgrow)
  have HH1 := Lib.hid (HH.out.ch0 hch1)
  have HC1 := Lib.hid hch1
  have e0 := HH1.out.c0
  have e1 := HH1.out.c1
  rw [← HK.out.1] at e1
  have f1 := HH1.out.fz 1
  have f2 := HH1.out.fz 2
  clear hch1 hgrow
  obtain ⟨m, hm⟩ : ∃ m, m = s.most := ⟨_, rfl⟩
  rw [← hm] at e0
  have hm2 : m ≤ 256 := by have := HH.out.ok.most; omega
  have HM := Lib.hid hm
  clear hm
  have hv : ∀ y ∈ L, 0 ≤ y.val ∧ y.val ≤ 1000 := fun y hy => by
    have := HH.out.ok.marks (pair y) (HH.out.perm.subset (List.mem_map.2 ⟨y, hy, rfl⟩))
    have h1 := HH.out.ok.all
    have h2 := HH.out.ok.most
    simp only [pair] at this
    omega
  have HV := Lib.hid hv
  clear hv
  obtain ⟨d, hd⟩ : ∃ d, d = k + 1 - m := ⟨_, rfl⟩
  have hdk : d ≤ k + 1 := by omega
  have hcl := cut_l g (k + 1) cap d hdk
  have HF := Lib.hid (show d = k + 1 - m ∧ k = s.pos ∧ n = s.all.length ∧ xs = s.all.take s.pos ∧ m = s.most ∧ xs.length = k from ⟨hd, HK.out.1, HK.out.2.1, HK.out.2.2, HM.out, HR.out.2⟩)
  by_cases hm1 : m < k + 1
  · have ed : ((d : Nat) : Int) = (k : Int) + 1 - (m : Int) := by omega
    rw [ed] at hcl
    have hd0 : 0 ≤ (k : Int) + 1 - (m : Int) := by omega
    have hd1 : (k : Int) + 1 - (m : Int) ≤ 1000 := by omega
    have ED := Lib.hid ed
    clear hd ed
    go_wp2_with (go_at_call 25; refine (keep_any hb mb _ _ _ _ _ L clk w1 HH1.out.blk HH1.out.map hd0 hd1 HV.out).mono ?_; rintro e w2 ⟨rfl, hm2', hch2⟩; have d0 := hch2.blk HH1.out.blk (fun e => HH1.out.ne e); have d1 : w2.cell? ⟨hb, 2, none⟩ = some (.slice A s.all.length c) := (by rw [cell_of_blk d0]; rfl); have d2 : w2.frozen? ⟨hb, 2, none⟩ = false := frozen_of_blk d0 2; have d3 : w2.frozen? ⟨hb, 1, none⟩ = false := frozen_of_blk d0 1; have d4 : w2.cell? ⟨hb, 1, none⟩ = some (.int .i64 s.pos) := (by rw [cell_of_blk d0]; rfl); have HM2 := Lib.hid hm2'; have HC2 := Lib.hid hch2; clear hm2' hch2 d0)
    go_ret
    have e1 : (d : Int) = (k : Int) + 1 - (m : Int) := ED.out
    have P := push_fin HH1.out HC1.out HF.out.2.1 HF.out.2.2.2.1 HF.out.2.2.2.2.1 HF.out.1 HF.out.2.2.2.2.2 HRW.out (by rw [e1]; exact HM2.out) HC2.out
    exact ⟨rfl, P.1, P.2⟩
  · have ed : d = 0 := by omega
    rw [ed] at hcl
    have HZ := Lib.hid ed
    clear hd ed
    go_wp2_with (go_at_call 25; refine (keep_any hb mb _ _ _ 0 _ L clk w1 HH1.out.blk HH1.out.map (by omega) (by omega) HV.out).mono ?_; rintro e w2 ⟨rfl, hm2', hch2⟩; have d0 := hch2.blk HH1.out.blk (fun e => HH1.out.ne e); have d1 : w2.cell? ⟨hb, 2, none⟩ = some (.slice A s.all.length c) := (by rw [cell_of_blk d0]; rfl); have d2 : w2.frozen? ⟨hb, 2, none⟩ = false := frozen_of_blk d0 2; have d3 : w2.frozen? ⟨hb, 1, none⟩ = false := frozen_of_blk d0 1; have d4 : w2.cell? ⟨hb, 1, none⟩ = some (.int .i64 s.pos) := (by rw [cell_of_blk d0]; rfl); have HM2 := Lib.hid hm2'; have HC2 := Lib.hid hch2; clear hm2' hch2 d0)
    go_ret
    have P := push_fin (d := 0) HH1.out HC1.out HF.out.2.1 HF.out.2.2.2.1 HF.out.2.2.2.2.1 (by rw [← HZ.out]; exact HF.out.1) HF.out.2.2.2.2.2 HRW.out HM2.out HC2.out
    rw [cutA_zero] at P
    exact ⟨rfl, P.1, P.2⟩
end Go.Proofs.Ytedpjfanfhhfdaa
