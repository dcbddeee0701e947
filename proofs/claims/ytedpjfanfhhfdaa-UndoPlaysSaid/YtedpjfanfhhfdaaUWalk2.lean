/- The walks of Done and Undone. -/
import Derived.Test.YtedpjfanfhhfdaaUWalk1
import Derived.StillTailTactics
namespace Go.Proofs.Ytedpjfanfhhfdaa
open Go.ChangeMaps Go.MapKept Go.WideShapes Go.RowKit Hist

set_option maxRecDepth 100000 in
set_option maxHeartbeats 400000 in
theorem done_any (hb mb : Nat) (s : Hist) (w : World) (h : Hs w hb mb s) :
    Calls Try.prog 9 #[.pointer (some ⟨hb, 0, none⟩)] w fun e w' => ∃ A' c', e = .returned (.slice A' s.pos c') ∧ Row w' A' c' (s.all.take s.pos) ∧ Ch (fun _ => False) w w' := by
  obtain ⟨A, c, L, clk, h⟩ := h
  have h1 := h.c1
  have h2 := h.c2
  have h3 := h.c3
  have hpos := h.ok.pos
  have hmost := h.ok.most
  have hall := h.ok.all
  have hr := h.row.take s.pos
  have hc := h.row.1
  have hcut := cut_h A s.all.length c s.pos (by omega)
  obtain ⟨xs, hxs⟩ : ∃ xs, xs = s.all.take s.pos := ⟨_, rfl⟩
  obtain ⟨k, hk⟩ : ∃ k, k = s.pos := ⟨_, rfl⟩
  obtain ⟨n, hn⟩ : ∃ n, n = s.all.length := ⟨_, rfl⟩
  have hl : xs.length = k := by rw [hxs, List.length_take, hk]; omega
  rw [← hxs] at hr ⊢
  rw [← hk] at h1 hcut ⊢
  rw [← hn] at h2 hcut
  have HR := Lib.hid (show Row w A c xs ∧ xs.length = k from ⟨hr, hl⟩)
  have hkn : k ≤ n := by omega
  have hn2 : n ≤ 256 := by omega
  clear h hr hl hxs hk hn hpos hmost hall
  go_enter Try.func9, Try.ntmps9
  go_wp2_with (go_at_call 23; refine (made_any hb mb _ h3).mono ?_; rintro e w' ⟨rfl, rfl⟩)
  go_still_tail 9, (by kernel_rfl)
  change wpList _ _ _ _ _ w.drew
  have hl := HR.out.2
  subst hl
  go_wp2_with (go_at_call 24; refine (clone_any A c xs w.drew HR.out.1 (by omega)).mono ?_; rintro e w' ⟨A', c', rfl, hr', hch⟩; have HR' := Lib.hid hr'; have HC' := Lib.hid hch; clear hr' hch)
  go_ret
  exact ⟨A', c', rfl, HR'.out, (Ch.drew (Ch.refl _ w)).trans HC'.out⟩
end Go.Proofs.Ytedpjfanfhhfdaa
