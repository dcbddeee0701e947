/- The walks of Same (two lists that are one) and done (a history behind calls). -/
import Derived.Test.YtedpjfanfhhfdaaUTo
namespace Go.Proofs.Ytedpjfanfhhfdaa
open Go.ChangeMaps Go.MapKept Go.WideShapes Go.RowKit Hist

set_option maxHeartbeats 400000 in
theorem same_true (A B : Option Addr) (c d : Nat) (xs : List Int) (w : World) (hA : Row w A c xs) (hB : Row w B d xs) (hbig : xs.length ≤ 1000000) :
    Calls Try.prog 15 #[.slice A xs.length c, .slice B xs.length d] w fun e w' => e = .returned (.bool true) ∧ ∃ n, w' = w.drewN n := by
  have HA := Lib.hid hA
  have HB := Lib.hid hB
  obtain ⟨n, hn⟩ : ∃ n, n = xs.length := ⟨_, rfl⟩
  rw [← hn]
  rw [← hn] at hbig
  have HN := Lib.hid hn
  clear hA hB hn
  go_enter Try.func15, Try.ntmps15
  go_wp2
  go_loopw [5] (fun i wr => ∃ k m : Nat, k ≤ n ∧ i = .int .i64 k ∧ wr = w.drewN m) (fun i _ => n - (intOf i).toNat)
  case atStart => exact ⟨0, 0, Nat.zero_le _, rfl, rfl⟩
  case round =>
    obtain ⟨k, m, hk, rfl, rfl⟩ := hrel
    by_cases hlt : k < n
    · obtain ⟨b1, o1, rfl, e1⟩ := HA.out.at_ (i := k) (by rw [← HN.out]; exact hlt)
      obtain ⟨b2, o2, rfl, e2⟩ := HB.out.at_ (i := k) (by rw [← HN.out]; exact hlt)
      have hl : (k : Int) < (n : Int) := by omega
      have hl0 : (0 : Int) ≤ (k : Int) := by omega
      obtain ⟨x, hx⟩ : ∃ x, x = xs.getD k 0 := ⟨_, rfl⟩
      rw [← hx] at e1 e2
      clear hx
      go_wp2
      go_quiet (fail)
      go_wp2
      go_roundw
      case rel => exact ⟨k + 1, _, by omega, by go_num, rfl⟩
      case measure => simp [intOf]; omega
    · go_wp2
      go_ret
      exact ⟨rfl, m, rfl⟩

/-- what a call is -/
structure Act1 where
  kind : Int
  x : Int
  name : ByteArray
/-- a list of calls, as it is read -/
def Acts (w : World) (A : Option Addr) (l : List Act1) : Prop :=
  l ≠ [] → ∃ b off cs t fr, A = some ⟨b, off, none⟩ ∧ w.heap[b]? = some (.cells cs t fr) ∧
    ∀ j (h : j < l.length), cs[off + j * 3]? = some (.int .i64 (l[j].kind)) ∧ cs[off + j * 3 + 1]? = some (.int .i64 (l[j].x)) ∧ cs[off + j * 3 + 2]? = some (.string (l[j].name))
theorem Acts.ch {w w' : World} {S : Nat → Prop} {A : Option Addr} {l : List Act1} (h : Acts w A l) (k : Ch S w w') (hS : ∀ i, i < w.heap.size → ¬ S i) : Acts w' A l := fun hl => by
  obtain ⟨b, off, cs, t, fr, e, hb, hc⟩ := h hl
  exact ⟨b, off, cs, t, fr, e, k.blk hb (hS b (blk_size hb)), hc⟩
theorem Acts.at_ {w : World} {A : Option Addr} {l : List Act1} (h : Acts w A l) {j : Nat} (hj : j < l.length) : ∃ b off, A = some ⟨b, off, none⟩ ∧ w.cell? ⟨b, off + j * 3, none⟩ = some (.int .i64 (l[j].kind)) ∧
    w.cell? ⟨b, off + j * 3 + 1, none⟩ = some (.int .i64 (l[j].x)) ∧ w.cell? ⟨b, off + j * 3 + 2, none⟩ = some (.string (l[j].name)) := by
  obtain ⟨b, off, cs, t, fr, e, hb, hc⟩ := h (by intro e; subst e; cases hj)
  exact ⟨b, off, e, by rw [cell_of_blk hb]; exact (hc j hj).1, by rw [cell_of_blk hb]; exact (hc j hj).2.1, by rw [cell_of_blk hb]; exact (hc j hj).2.2⟩

namespace Hist
def backS (s : Hist) : Hist := if s.pos = 0 then s else s.back
def backV (s : Hist) : Int := if s.pos = 0 then 0 else s.all.getD (s.pos - 1) 0
def backE (s : Hist) : Int := if s.pos = 0 then 12 else 0
def againS (s : Hist) : Hist := if s.pos = s.all.length then s else s.again
def againV (s : Hist) : Int := if s.pos = s.all.length then 0 else s.all.getD s.pos 0
def againE (s : Hist) : Int := if s.pos = s.all.length then 12 else 0
def act (s : Hist) (a : Act1) : Hist := if a.kind = 1 then s.backS else if a.kind = 2 then s.againS else if a.kind = 3 then s.mark a.name else if a.kind = 4 then toP s a.name else s.push a.x
end Hist

theorem back_all (hb mb : Nat) (s : Hist) (w : World) (h : Hs w hb mb s) :
    Calls Try.prog 20 #[.pointer (some ⟨hb, 0, none⟩)] w fun e w' => e = .returned (.tuple #[.int .i64 s.backV, .int .i64 s.backE]) ∧ Hs w' hb mb s.backS ∧ Ch (SH hb mb) w w' := by
  have hH := h
  obtain ⟨A, c, L, clk, h⟩ := h
  refine (back_any hb mb s w A c L clk h).mono ?_
  unfold Hist.backV Hist.backE Hist.backS
  rintro e w' (⟨h0, rfl, rfl⟩ | ⟨h0, rfl, hs, hc⟩)
  · rw [if_pos h0, if_pos h0, if_pos h0]; exact ⟨rfl, hH, Ch.refl _ _⟩
  · rw [if_neg h0, if_neg h0, if_neg h0]; exact ⟨rfl, ⟨_, _, _, _, hs⟩, hc⟩
theorem again_all (hb mb : Nat) (s : Hist) (w : World) (h : Hs w hb mb s) :
    Calls Try.prog 19 #[.pointer (some ⟨hb, 0, none⟩)] w fun e w' => e = .returned (.tuple #[.int .i64 s.againV, .int .i64 s.againE]) ∧ Hs w' hb mb s.againS ∧ Ch (SH hb mb) w w' := by
  obtain ⟨A, c, L, clk, h⟩ := h
  refine (again_any hb mb s w A c L clk h).mono ?_
  unfold Hist.againV Hist.againE Hist.againS
  rintro e w' (⟨h0, rfl, hs, hc⟩ | ⟨h0, rfl, hs, hc⟩)
  · rw [if_pos h0, if_pos h0, if_pos h0]; exact ⟨rfl, ⟨_, _, _, _, hs⟩, hc⟩
  · rw [if_neg (Nat.ne_of_lt h0), if_neg (Nat.ne_of_lt h0), if_neg (Nat.ne_of_lt h0)]; exact ⟨rfl, ⟨_, _, _, _, hs⟩, hc⟩

/-- a history that the call itself has made -/
def DoneRel (w : World) (hb mb : Nat) (s : Hist) (wr : World) : Prop := Hs wr hb mb s ∧ Ch (fun _ => False) w wr ∧ w.heap.size ≤ hb ∧ w.heap.size ≤ mb
theorem DoneRel.step {w wr w' : World} {hb mb : Nat} {s s' : Hist} (h : DoneRel w hb mb s wr) (hs : Hs w' hb mb s') (hc : Ch (SH hb mb) wr w') : DoneRel w hb mb s' w' := by
  obtain ⟨_, h2, h3, h4⟩ := h
  refine ⟨hs, h2.trans' hc (fun _ h => h) ?_, h3, h4⟩
  rintro i hi (rfl | rfl) <;> omega
theorem foldl_take {α β : Type} (f : β → α → β) (b : β) (l : List α) (k : Nat) (h : k < l.length) : (l.take (k + 1)).foldl f b = f ((l.take k).foldl f b) l[k] := by
  rw [List.take_succ_eq_append_getElem h, List.foldl_append]; rfl

def DoneLoop (w : World) (most : Int) (l : List Act1) (hb mb : Nat) (i : Value) (wr : World) : Prop :=
  ∃ k : Nat, k ≤ l.length ∧ i = .int .i64 k ∧ DoneRel w hb mb ((l.take k).foldl Hist.act (Hist.new most)) wr

theorem DoneLoop.step {w wr w' : World} {most : Int} {l : List Act1} {hb mb k : Nat} {s s' : Hist} (hk : k < l.length) (hs : s = (l.take k).foldl Hist.act (Hist.new most)) (h : DoneRel w hb mb s wr) (h1 : Hs w' hb mb s') (hc : Ch (SH hb mb) wr w') (e : s.act l[k] = s') :
    DoneLoop w most l hb mb (.int .i64 ((k : Int) + 1)) w' :=
  ⟨k + 1, hk, by go_num, by rw [foldl_take _ _ _ _ hk, ← hs, e]; exact h.step h1 hc⟩

set_option maxRecDepth 100000 in
set_option maxHeartbeats 2000000 in
theorem done_law (most : Int) (A : Option Addr) (c : Nat) (l : List Act1) (w : World) (hl : Acts w A l) (hbig : l.length ≤ 9223372036854775807) (hsm : ∀ a ∈ l, a.name.size ≤ maxLen) :
    Calls Try.prog 7 #[.int .i64 most, .slice A l.length c] w fun e w' => ∃ hb mb, e = .returned (.pointer (some ⟨hb, 0, none⟩)) ∧ DoneRel w hb mb (l.foldl Hist.act (Hist.new most)) w' := by
  have HL := Lib.hid hl
  have HM := Lib.hid hsm
  obtain ⟨n, hn⟩ : ∃ n, n = l.length := ⟨_, rfl⟩
  rw [← hn]
  rw [← hn] at hbig
  have HN := Lib.hid hn
  clear hl hsm hn
  go_enter Try.func7, Try.ntmps7
  go_wp2_with (go_at_call 12; refine (new_any most w).mono ?_; rintro e w0 ⟨hb, mb, rfl, hs, hc, hb1, hb2⟩; have H0 := Lib.hid (show DoneRel w hb mb (Hist.new most) w0 from ⟨hs, hc, hb1, hb2⟩); clear hs hc hb1 hb2)
  go_loopw [6] (fun i wr => DoneLoop w most l hb mb i wr) (fun i _ => n - (intOf i).toNat)
  case atStart => exact ⟨0, Nat.zero_le _, rfl, H0.out⟩
  case round =>
    obtain ⟨k, hk, rfl, hR⟩ := hrel
    rw [← HN.out] at hk
    obtain ⟨s, hs⟩ : ∃ s, s = (l.take k).foldl Hist.act (Hist.new most) := ⟨_, rfl⟩
    rw [← hs] at hR
    have HS := Lib.hid hs
    have HR := Lib.hid hR
    clear hs hR
    by_cases hlt : k < n
    · obtain ⟨b, off, rfl, e0, e1, e2⟩ := (HL.out.ch HR.out.2.1 (fun _ _ h => h)).at_ (j := k) (by rw [← HN.out]; exact hlt)
      have hkl : k < l.length := by rw [← HN.out]; exact hlt
      have hnm := HM.out _ (List.getElem_mem hkl)
      obtain ⟨kd, hkd⟩ : ∃ kd, kd = l[k].kind := ⟨_, rfl⟩
      obtain ⟨x, hx⟩ : ∃ x, x = l[k].x := ⟨_, rfl⟩
      obtain ⟨nm, hnme⟩ : ∃ nm, nm = l[k].name := ⟨_, rfl⟩
      rw [← hkd] at e0
      rw [← hx] at e1
      rw [← hnme] at e2 hnm
      have HK := Lib.hid (show k < l.length from hkl)
      have HA := Lib.hid (show ∃ h : k < l.length, kd = l[k].kind ∧ x = l[k].x ∧ nm = l[k].name from ⟨hkl, hkd, hx, hnme⟩)
      clear hkl hkd hx hnme
      by_cases k1 : kd = 1
      · skip
        subst k1
        go_wp2_with (go_at_call 20; refine (back_all hb mb s _ HR.out.1).mono ?_; rintro e w1 ⟨rfl, hs1, hc1⟩; have H1 := Lib.hid hs1; have C1 := Lib.hid hc1; clear hs1 hc1)
        go_roundw
        case rel =>
          obtain ⟨hkl, a1, a2, a3⟩ := HA.out
          exact DoneLoop.step hkl HS.out HR.out H1.out C1.out (by unfold Hist.act; rw [← a1]; rfl)
        case measure => simp [intOf]; omega
      · by_cases k2 : kd = 2
        · skip
          subst k2
          go_wp2_with (go_at_call 19; refine (again_all hb mb s _ HR.out.1).mono ?_; rintro e w1 ⟨rfl, hs1, hc1⟩; have H1 := Lib.hid hs1; have C1 := Lib.hid hc1; clear hs1 hc1)
          go_roundw
          case rel =>
            obtain ⟨hkl, a1, a2, a3⟩ := HA.out
            exact DoneLoop.step hkl HS.out HR.out H1.out C1.out (by unfold Hist.act; rw [← a1]; rfl)
          case measure => simp [intOf]; omega
        · by_cases k3 : kd = 3
          · skip
            subst k3
            go_wp2_with (go_at_call 21; refine (mark_any hb mb s nm _ HR.out.1 hnm).mono ?_; rintro e w1 ⟨rfl, hs1, hc1⟩; have H1 := Lib.hid hs1; have C1 := Lib.hid hc1; clear hs1 hc1)
            go_roundw
            case rel =>
              obtain ⟨hkl, a1, a2, a3⟩ := HA.out
              exact DoneLoop.step hkl HS.out HR.out H1.out C1.out (by unfold Hist.act; rw [← a1]; rw [← a3]; rfl)
            case measure => simp [intOf]; omega
          · by_cases k4 : kd = 4
            · skip
              subst k4
              go_wp2_with (go_at_call 22; refine (to_any hb mb s nm _ HR.out.1 hnm).mono ?_; rintro e w1 ⟨A', c', rfl, hr', hs1, hc1⟩; have H1 := Lib.hid hs1; have C1 := Lib.hid hc1; clear hs1 hc1 hr')
              go_roundw
              case rel =>
                obtain ⟨hkl, a1, a2, a3⟩ := HA.out
                exact DoneLoop.step hkl HS.out HR.out H1.out C1.out (by unfold Hist.act; rw [← a1]; rw [← a3]; rfl)
              case measure => simp [intOf]; omega
            · skip
              have b1 : (kd == 1) = false := by rw [beq_eq_false_iff_ne]; exact k1
              have b2 : (kd == 2) = false := by rw [beq_eq_false_iff_ne]; exact k2
              have b3 : (kd == 3) = false := by rw [beq_eq_false_iff_ne]; exact k3
              have b4 : (kd == 4) = false := by rw [beq_eq_false_iff_ne]; exact k4
              have HKD := Lib.hid (show kd ≠ 1 ∧ kd ≠ 2 ∧ kd ≠ 3 ∧ kd ≠ 4 from ⟨k1, k2, k3, k4⟩)
              clear k1 k2 k3 k4
              go_wp2_with (go_at_call 11; refine (push_any hb mb s x _ HR.out.1).mono ?_; rintro e w1 ⟨rfl, hs1, hc1⟩; have H1 := Lib.hid hs1; have C1 := Lib.hid hc1; clear hs1 hc1)
              go_roundw
              case rel =>
                obtain ⟨hkl, a1, a2, a3⟩ := HA.out
                exact DoneLoop.step hkl HS.out HR.out H1.out C1.out (by unfold Hist.act; rw [← a1]; rw [← a2, if_neg HKD.out.1, if_neg HKD.out.2.1, if_neg HKD.out.2.2.1, if_neg HKD.out.2.2.2])
              case measure => simp [intOf]; omega
    · obtain rfl : k = n := by omega
      have HE := Lib.hid (show s = l.foldl Hist.act (Hist.new most) by rw [HS.out, HN.out, List.take_length])
      go_wp2
      go_ret
      exact ⟨hb, mb, rfl, HE.out ▸ HR.out⟩
end Go.Proofs.Ytedpjfanfhhfdaa
