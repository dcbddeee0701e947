/- The walks of made, New, Back and Again. -/
import Derived.Test.YtedpjfanfhhfdaaUHist
import Derived.BigQuiet
import Derived.Deep.QuietTactic
namespace Go.Proofs.Ytedpjfanfhhfdaa
open Go.ChangeMaps Go.MapKept Go.WideShapes Go.RowKit Hist

set_option maxHeartbeats 400000 in
theorem made_any (hb : Nat) (mb : Nat) (w : World) (h3 : w.cell? ⟨hb, 3, none⟩ = some (.map (some mb))) :
    Calls Try.prog 23 #[.pointer (some ⟨hb, 0, none⟩)] w fun e w' => e = .returned (.bool true) ∧ w = w' := by
  have q1 : ∀ (w : World) (r : Option Nat), (binOp .neq 53 (.map r) (.map none)).run Try.prog w = .ok (.bool (!r.isNone)) w := fun w r => run_neq_map_nil w _ _ _ r Try.underlying53
  go_enter Try.func23, Try.ntmps23
  go_wp2
  go_ret
  exact ⟨rfl, rfl⟩

theorem getD_take_last {xs : List Int} {k : Nat} (h : k < xs.length) : xs.take (k + 1) = xs.take k ++ [xs.getD k 0] := by
  rw [List.take_succ_eq_append_getElem h, List.getD_eq_getElem?_getD, List.getElem?_eq_getElem h]; rfl

def BackPost (w : World) (hb mb : Nat) (s : Hist) (A : Option Addr) (c : Nat) (L : List Ent) (clk : Nat) (e : Ending) (w' : World) : Prop :=
  (s.pos = 0 ∧ e = .returned (.tuple #[.int .i64 0, .int .i64 12]) ∧ w' = w) ∨
  (s.pos ≠ 0 ∧ e = .returned (.tuple #[.int .i64 (s.all.getD (s.pos - 1) 0), .int .i64 0]) ∧ IsH w' hb mb s.back A c L clk ∧ Ch (SH hb mb) w w')

set_option maxHeartbeats 400000 in
theorem back_any (hb mb : Nat) (s : Hist) (w : World) (A : Option Addr) (c : Nat) (L : List Ent) (clk : Nat) (h : IsH w hb mb s A c L clk) :
    Calls Try.prog 20 #[.pointer (some ⟨hb, 0, none⟩)] w (BackPost w hb mb s A c L clk) := by
  have h1 := h.c1
  have h2 := h.c2
  have h3 := h.c3
  have f1 := h.fz 1
  by_cases hp : s.pos = 0
  · rw [hp] at h1
    have H := Lib.hid h
    have HP := Lib.hid hp
    clear h hp h2 f1
    go_enter Try.func20, Try.ntmps20
    go_wp2_with (go_at_call 23; refine (made_any hb mb _ h3).mono ?_; rintro e w' ⟨rfl, rfl⟩)
    go_ret2
    exact .inl ⟨HP.out, rfl, rfl⟩
  · have hpos := h.ok.pos
    have hmost := h.ok.most
    have hall := h.ok.all
    obtain ⟨k, hk⟩ : ∃ k, s.pos = k + 1 := ⟨s.pos - 1, by omega⟩
    obtain ⟨b, off, hA, hcell⟩ := h.row.at_ (i := k) (by omega)
    have hg := h.goto (t := k) (by omega)
    have hx : (w.setCell ⟨hb, 1, none⟩ (.int .i64 (k : Int))).cell? ⟨b, off + k, none⟩ = some (.int .i64 (s.all.getD k 0)) := by
      obtain ⟨b', off', hA', hcell'⟩ := hg.row.at_ (i := k) (show k < s.all.length by omega)
      rw [hA] at hA'; cases hA'; exact hcell'
    have hch : Ch (SH hb mb) w (w.setCell ⟨hb, 1, none⟩ (.int .i64 (k : Int))) := (Ch.refl _ w).setCell _ (fun _ => .inl rfl) _
    have g1 := hg.c1
    have g2 := hg.c2
    obtain ⟨x, hxx⟩ : ∃ x, x = s.all.getD k 0 := ⟨_, rfl⟩
    rw [← hxx] at hx
    rw [hk] at h1
    have hb0 : ((↑(k + 1 : Nat) : Int) == 0) = false := by rw [beq_eq_false_iff_ne]; omega
    have hlt : k < s.all.length := by omega
    subst hA
    obtain ⟨n, hn⟩ : ∃ n, n = s.all.length := ⟨_, rfl⟩
    have hg' : IsH (w.setCell ⟨hb, 1, none⟩ (.int .i64 (k : Int))) hb mb s.back (some ⟨b, off, none⟩) c L clk := by
      have e : s.back = s.goto k := by simp only [Hist.back, Hist.goto, hk, Nat.add_sub_cancel]
      rw [e]; exact hg
    have HF := Lib.hid (show s.pos ≠ 0 ∧ x = s.all.getD (s.pos - 1) 0 from ⟨hp, by rw [hxx, hk, Nat.add_sub_cancel]⟩)
    rw [← hn] at h2 hlt
    have g2' : (w.setCell ⟨hb, 1, none⟩ (.int .i64 (k : Int))).cell? ⟨hb, 2, none⟩ = some (.slice (some ⟨b, off, none⟩) n c) := by rw [g2, hn]; rfl
    have g1' : (w.setCell ⟨hb, 1, none⟩ (.int .i64 (k : Int))).cell? ⟨hb, 1, none⟩ = some (.int .i64 (k : Int)) := g1
    have HS := Lib.hid hg'
    have HC := Lib.hid hch
    have hn2 : n ≤ 256 := by omega
    clear hpos hmost hall
    clear h hg hg' hch hxx hn hk hp g1 g2 hcell
    go_enter Try.func20, Try.ntmps20
    go_wp2_with (go_at_call 23; refine (made_any hb mb _ h3).mono ?_; rintro e w' ⟨rfl, rfl⟩)
    go_quiet (fail)
    go_wp2
    go_ret2
    exact .inr ⟨HF.out.1, by rw [← HF.out.2]; rfl, HS.out.heap rfl, HC.out.heap rfl rfl rfl rfl⟩

def AgainPost (w : World) (hb mb : Nat) (s : Hist) (A : Option Addr) (c : Nat) (L : List Ent) (clk : Nat) (e : Ending) (w' : World) : Prop :=
  (s.pos = s.all.length ∧ e = .returned (.tuple #[.int .i64 0, .int .i64 12]) ∧ IsH w' hb mb s A c L clk ∧ Ch (SH hb mb) w w') ∨
  (s.pos < s.all.length ∧ e = .returned (.tuple #[.int .i64 (s.all.getD s.pos 0), .int .i64 0]) ∧ IsH w' hb mb s.again A c L clk ∧ Ch (SH hb mb) w w')

set_option maxHeartbeats 400000 in
theorem again_any (hb mb : Nat) (s : Hist) (w : World) (A : Option Addr) (c : Nat) (L : List Ent) (clk : Nat) (h : IsH w hb mb s A c L clk) :
    Calls Try.prog 19 #[.pointer (some ⟨hb, 0, none⟩)] w (AgainPost w hb mb s A c L clk) := by
  have h1 := h.c1
  have h2 := h.c2
  have h3 := h.c3
  have f1 := h.fz 1
  have hpos := h.ok.pos
  have hmost := h.ok.most
  have hall := h.ok.all
  obtain ⟨k, hk⟩ : ∃ k, k = s.pos := ⟨_, rfl⟩
  obtain ⟨n, hn⟩ : ∃ n, n = s.all.length := ⟨_, rfl⟩
  rw [← hk] at h1
  rw [← hn] at h2
  have hn2 : n ≤ 256 := by omega
  by_cases hp : k = n
  · have hd : ((k : Int) == (n : Int)) = true := by rw [beq_iff_eq]; omega
    have HS := Lib.hid h
    have HP := Lib.hid (show s.pos = s.all.length by rw [← hk, ← hn]; exact hp)
    clear h hp f1 hk hn hpos hmost hall
    go_enter Try.func19, Try.ntmps19
    go_wp2_with (go_at_call 23; refine (made_any hb mb _ h3).mono ?_; rintro e w' ⟨rfl, rfl⟩)
    go_quiet (fail)
    go_wp2
    go_ret2
    exact .inl ⟨HP.out, rfl, HS.out.heap rfl, (Ch.refl _ _).drewN _⟩
  · have hlt : k < n := by omega
    have hd : ((k : Int) == (n : Int)) = false := by rw [beq_eq_false_iff_ne]; omega
    obtain ⟨b, off, hA, hcell⟩ := h.row.at_ (i := k) (by omega)
    have hg := h.goto (t := k + 1) (by omega)
    have hx : (w.setCell ⟨hb, 1, none⟩ (.int .i64 ((k + 1 : Nat) : Int))).cell? ⟨b, off + k, none⟩ = some (.int .i64 (s.all.getD k 0)) := by
      obtain ⟨b', off', hA', hcell'⟩ := hg.row.at_ (i := k) (show k < s.all.length by omega)
      rw [hA] at hA'; cases hA'; exact hcell'
    have hch : Ch (SH hb mb) w (w.setCell ⟨hb, 1, none⟩ (.int .i64 ((k + 1 : Nat) : Int))) := (Ch.refl _ w).setCell _ (fun _ => .inl rfl) _
    have g1 : (w.setCell ⟨hb, 1, none⟩ (.int .i64 ((k + 1 : Nat) : Int))).cell? ⟨hb, 1, none⟩ = some (.int .i64 ((k + 1 : Nat) : Int)) := hg.c1
    have g2 := hg.c2
    obtain ⟨x, hxx⟩ : ∃ x, x = s.all.getD k 0 := ⟨_, rfl⟩
    rw [← hxx] at hx
    subst hA
    have hg' : IsH (w.setCell ⟨hb, 1, none⟩ (.int .i64 ((k + 1 : Nat) : Int))) hb mb s.again (some ⟨b, off, none⟩) c L clk := by
      have e : s.again = s.goto (k + 1) := by simp only [Hist.again, Hist.goto, hk]
      rw [e]; exact hg
    have HF := Lib.hid (show s.pos < s.all.length ∧ x = s.all.getD s.pos 0 from ⟨by omega, by rw [hxx, hk]⟩)
    have g2' : (w.setCell ⟨hb, 1, none⟩ (.int .i64 ((k + 1 : Nat) : Int))).cell? ⟨hb, 2, none⟩ = some (.slice (some ⟨b, off, none⟩) n c) := by rw [g2, hn]; rfl
    have g1 : ∀ m, ((w.drewN m).setCell ⟨hb, 1, none⟩ (.int .i64 ((k : Int) + 1))).cell? ⟨hb, 1, none⟩ = some (.int .i64 ((k : Int) + 1)) := fun _ => g1
    have g2 : ∀ m, ((w.drewN m).setCell ⟨hb, 1, none⟩ (.int .i64 ((k : Int) + 1))).cell? ⟨hb, 2, none⟩ = some (.slice (some ⟨b, off, none⟩) n c) := fun _ => g2'
    have hx : ∀ m, ((w.drewN m).setCell ⟨hb, 1, none⟩ (.int .i64 ((k : Int) + 1))).cell? ⟨b, off + k, none⟩ = some (.int .i64 x) := fun _ => hx
    clear g2'
    have HS := Lib.hid hg'
    have HC := Lib.hid hch
    clear h hg hg' hch hxx hn hk hp hcell hpos hmost hall
    go_enter Try.func19, Try.ntmps19
    go_wp2_with (go_at_call 23; refine (made_any hb mb _ h3).mono ?_; rintro e w' ⟨rfl, rfl⟩)
    go_quiet (fail)
    go_wp2
    go_quiet (fail)
    go_wp2
    go_ret2
    exact .inr ⟨HF.out.1, by rw [← HF.out.2]; rfl, HS.out.heap rfl, HC.out.heap rfl rfl rfl rfl⟩
end Go.Proofs.Ytedpjfanfhhfdaa
