/- The walk of lives: the document's example. -/
import Derived.Test.YtedpjfanfhhfdaaUDone
namespace Go.Proofs.Ytedpjfanfhhfdaa
open Go.ChangeMaps Go.MapKept Go.WideShapes Go.RowKit Hist

theorem Row.sh {w w' : World} {hb mb : Nat} {s : Hist} {A : Option Addr} {c : Nat} {xs : List Int} (h : Row w A c xs) (hs : Hs w hb mb s) (k : Ch (SH hb mb) w w') : Row w' A c xs := by
  obtain ⟨_, _, _, _, hs⟩ := hs
  exact h.ch k (fun b cs fr hb' => hs.row_ne hb')
theorem row_lit2 (w : World) (a b : Int) : Row (w.alloc (.cells #[.int .i64 a, .int .i64 b] 3)) (some ⟨w.heap.size, 0, none⟩) 2 [a, b] :=
  ⟨by simp, (fun e => by cases e), by omega, fun _ => ⟨w.heap.size, 0, _, _, rfl, (MapKept.heap_alloc w _).1, fun j hj => by
    match j, hj with
    | 0, _ => rfl
    | 1, _ => rfl⟩⟩
theorem same_ch (A B : Option Addr) (c d : Nat) (xs : List Int) (w : World) (hA : Row w A c xs) (hB : Row w B d xs) (hbig : xs.length ≤ 1000000) :
    Calls Try.prog 15 #[.slice A xs.length c, .slice B xs.length d] w fun e w' => e = .returned (.bool true) ∧ Ch (fun _ => False) w w' :=
  (same_true A B c d xs w hA hB hbig).mono (by rintro e w' ⟨he, n, rfl⟩; exact ⟨he, (Ch.refl _ _).drewN n⟩)
def xName : ByteArray := ⟨#[120]⟩

def S0 : Hist := (⟨2, 0, [], []⟩ : Hist)
def S1 : Hist := (⟨2, 1, [1], []⟩ : Hist)
def S2 : Hist := (⟨2, 2, [1, 2], []⟩ : Hist)
def S3 : Hist := (⟨2, 2, [2, 3], []⟩ : Hist)
def S4 : Hist := (⟨2, 1, [2, 3], []⟩ : Hist)
def S5 : Hist := (⟨2, 2, [2, 3], []⟩ : Hist)
def S6 : Hist := (⟨2, 1, [2, 3], []⟩ : Hist)
def S7 : Hist := (⟨2, 0, [2, 3], []⟩ : Hist)
def S8 : Hist := (⟨2, 0, [2, 3], [(xName, 0)]⟩ : Hist)
def S9 : Hist := (⟨2, 1, [2, 3], [(xName, 0)]⟩ : Hist)
def S10 : Hist := (⟨2, 2, [2, 3], [(xName, 0)]⟩ : Hist)
def S11 : Hist := (⟨2, 0, [2, 3], [(xName, 0)]⟩ : Hist)

set_option maxRecDepth 100000 in
set_option maxHeartbeats 4000000 in
theorem lives_true (w : World) : Calls Try.prog 8 #[] w fun e w' => e = .returned (.bool true) ∧ Ch (fun _ => False) w w' := by
  go_enter Try.func8, Try.ntmps8
  go_wp2_with (go_at_call 12; refine (new_any 2 w).mono ?_; rintro e w0 ⟨hb, mb, rfl, hs, hc, hb1, hb2⟩; have HS : Hs w0 hb mb S0 := hs; have HH0 := Lib.hid (show Hs w0 hb mb S0 ∧ Ch (SH hb mb) w0 w0 from ⟨HS, Ch.refl _ _⟩); have HN := Lib.hid (show Ch (fun _ => False) w w0 ∧ w.heap.size ≤ hb ∧ w.heap.size ≤ mb from ⟨hc, hb1, hb2⟩); clear hs hc hb1 hb2 HS)
  go_wp2_with fail
  refine (push_any hb mb S0 1 w0 HH0.out.1).mono ?_
  rintro e w1 ⟨he, hs, hc⟩
  obtain rfl : e = .returned (.int .i64 0) := he
  have HS : Hs w1 hb mb S1 := hs
  have HH1 := Lib.hid (show Hs w1 hb mb S1 ∧ Ch (SH hb mb) w0 w1 from ⟨HS, HH0.out.2.trans hc⟩)
  clear HS hc hs
  go_wp2_with fail
  refine (push_any hb mb S1 2 w1 HH1.out.1).mono ?_
  rintro e w2 ⟨he, hs, hc⟩
  obtain rfl : e = .returned (.int .i64 0) := he
  have HS : Hs w2 hb mb S2 := hs
  have HH2 := Lib.hid (show Hs w2 hb mb S2 ∧ Ch (SH hb mb) w0 w2 from ⟨HS, HH1.out.2.trans hc⟩)
  clear HS hc hs
  go_wp2_with fail
  refine (push_any hb mb S2 3 w2 HH2.out.1).mono ?_
  rintro e w3 ⟨he, hs, hc⟩
  obtain rfl : e = .returned (.int .i64 0) := he
  have HS : Hs w3 hb mb S3 := hs
  have HH3 := Lib.hid (show Hs w3 hb mb S3 ∧ Ch (SH hb mb) w0 w3 from ⟨HS, HH2.out.2.trans hc⟩)
  clear HS hc hs
  go_wp2_with fail
  refine (done_any hb mb S3 w3 HH3.out.1).mono ?_
  rintro e w4 ⟨Ad, cd, he, hrow, hc0⟩
  obtain rfl : e = .returned (.slice Ad 2 cd) := he
  have HS : Hs w4 hb mb S3 := HH3.out.1.ch0 hc0
  have hc : Ch (SH hb mb) w3 w4 := hc0.mono (fun _ _ h => h.elim)
  have HH4 := Lib.hid (show Hs w4 hb mb S3 ∧ Ch (SH hb mb) w0 w4 ∧ Row w4 Ad cd [2, 3] from ⟨HS, HH3.out.2.trans hc, hrow⟩)
  clear HS hc hc0 hrow
  go_wp2_with fail
  refine (back_all hb mb S3 w4 HH4.out.1).mono ?_
  rintro e w5 ⟨he, hs, hc⟩
  obtain rfl : e = .returned (.tuple #[.int .i64 3, .int .i64 0]) := he
  have HS : Hs w5 hb mb S4 := hs
  have HH5 := Lib.hid (show Hs w5 hb mb S4 ∧ Ch (SH hb mb) w0 w5 ∧ Row w5 Ad cd [2, 3] from ⟨HS, HH4.out.2.1.trans hc, (HH4.out.2.2.sh HH4.out.1 hc)⟩)
  clear HS hc hs
  go_wp2_with fail
  refine (again_all hb mb S4 w5 HH5.out.1).mono ?_
  rintro e w6 ⟨he, hs, hc⟩
  obtain rfl : e = .returned (.tuple #[.int .i64 3, .int .i64 0]) := he
  have HS : Hs w6 hb mb S5 := hs
  have HH6 := Lib.hid (show Hs w6 hb mb S5 ∧ Ch (SH hb mb) w0 w6 ∧ Row w6 Ad cd [2, 3] from ⟨HS, HH5.out.2.1.trans hc, (HH5.out.2.2.sh HH5.out.1 hc)⟩)
  clear HS hc hs
  go_wp2_with fail
  refine (back_all hb mb S5 w6 HH6.out.1).mono ?_
  rintro e w7 ⟨he, hs, hc⟩
  obtain rfl : e = .returned (.tuple #[.int .i64 3, .int .i64 0]) := he
  have HS : Hs w7 hb mb S6 := hs
  have HH7 := Lib.hid (show Hs w7 hb mb S6 ∧ Ch (SH hb mb) w0 w7 ∧ Row w7 Ad cd [2, 3] from ⟨HS, HH6.out.2.1.trans hc, (HH6.out.2.2.sh HH6.out.1 hc)⟩)
  clear HS hc hs
  go_wp2_with fail
  refine (back_all hb mb S6 w7 HH7.out.1).mono ?_
  rintro e w8 ⟨he, hs, hc⟩
  obtain rfl : e = .returned (.tuple #[.int .i64 2, .int .i64 0]) := he
  have HS : Hs w8 hb mb S7 := hs
  have HH8 := Lib.hid (show Hs w8 hb mb S7 ∧ Ch (SH hb mb) w0 w8 ∧ Row w8 Ad cd [2, 3] from ⟨HS, HH7.out.2.1.trans hc, (HH7.out.2.2.sh HH7.out.1 hc)⟩)
  clear HS hc hs
  go_wp2_with fail
  refine (undone_any hb mb S7 w8 HH8.out.1).mono ?_
  rintro e w9 ⟨Ag, cg, he, hrow, hc0⟩
  obtain rfl : e = .returned (.slice Ag 2 cg) := he
  have HS : Hs w9 hb mb S7 := HH8.out.1.ch0 hc0
  have hc : Ch (SH hb mb) w8 w9 := hc0.mono (fun _ _ h => h.elim)
  have HH9 := Lib.hid (show Hs w9 hb mb S7 ∧ Ch (SH hb mb) w0 w9 ∧ Row w9 Ad cd [2, 3] ∧ Row w9 Ag cg [2, 3] from ⟨HS, HH8.out.2.1.trans hc, (HH8.out.2.2.sh HH8.out.1 hc), hrow⟩)
  clear HS hc hc0 hrow
  go_wp2_with fail
  refine (mark_any hb mb S7 xName w9 HH9.out.1 (by unfold maxLen; decide)).mono ?_
  rintro e w10 ⟨he, hs, hc⟩
  obtain rfl : e = .returned (.int .i64 0) := he
  have HS : Hs w10 hb mb S8 := hs
  have HH10 := Lib.hid (show Hs w10 hb mb S8 ∧ Ch (SH hb mb) w0 w10 ∧ Row w10 Ad cd [2, 3] ∧ Row w10 Ag cg [2, 3] from ⟨HS, HH9.out.2.1.trans hc, (HH9.out.2.2.1.sh HH9.out.1 hc), (HH9.out.2.2.2.sh HH9.out.1 hc)⟩)
  clear HS hc hs
  go_wp2_with fail
  refine (again_all hb mb S8 w10 HH10.out.1).mono ?_
  rintro e w11 ⟨he, hs, hc⟩
  obtain rfl : e = .returned (.tuple #[.int .i64 2, .int .i64 0]) := he
  have HS : Hs w11 hb mb S9 := hs
  have HH11 := Lib.hid (show Hs w11 hb mb S9 ∧ Ch (SH hb mb) w0 w11 ∧ Row w11 Ad cd [2, 3] ∧ Row w11 Ag cg [2, 3] from ⟨HS, HH10.out.2.1.trans hc, (HH10.out.2.2.1.sh HH10.out.1 hc), (HH10.out.2.2.2.sh HH10.out.1 hc)⟩)
  clear HS hc hs
  go_wp2_with fail
  refine (again_all hb mb S9 w11 HH11.out.1).mono ?_
  rintro e w12 ⟨he, hs, hc⟩
  obtain rfl : e = .returned (.tuple #[.int .i64 3, .int .i64 0]) := he
  have HS : Hs w12 hb mb S10 := hs
  have HH12 := Lib.hid (show Hs w12 hb mb S10 ∧ Ch (SH hb mb) w0 w12 ∧ Row w12 Ad cd [2, 3] ∧ Row w12 Ag cg [2, 3] from ⟨HS, HH11.out.2.1.trans hc, (HH11.out.2.2.1.sh HH11.out.1 hc), (HH11.out.2.2.2.sh HH11.out.1 hc)⟩)
  clear HS hc hs
  go_wp2_with fail
  refine (to_any hb mb S10 xName w12 HH12.out.1 (by unfold maxLen; decide)).mono ?_
  rintro e w13 ⟨Al, cl, he, hrow, hs, hc⟩
  obtain rfl : e = .returned (.tuple #[.slice Al 2 cl, .int .i64 0]) := he
  have HS : Hs w13 hb mb S11 := hs
  have HH13 := Lib.hid (show Hs w13 hb mb S11 ∧ Ch (SH hb mb) w0 w13 ∧ Row w13 Ad cd [2, 3] ∧ Row w13 Ag cg [2, 3] ∧ Row w13 Al cl [3, 2] from ⟨HS, HH12.out.2.1.trans hc, (HH12.out.2.2.1.sh HH12.out.1 hc), (HH12.out.2.2.2.sh HH12.out.1 hc), hrow⟩)
  clear HS hc hs hrow
  have hA := HH13.out
  have hD := hA.2.2.1
  have hG := hA.2.2.2.1
  have hL := hA.2.2.2.2
  have HD := Lib.hid hD
  have HG := Lib.hid hG
  have HL := Lib.hid hL
  have HC := Lib.hid hA.2.1
  have HS := Lib.hid hA.1
  clear hA hD hG hL
  go_wp2_with fail
  refine (same_ch Ad (some ⟨w13.heap.size, 0, none⟩) cd 2 [2, 3] (w13.alloc (.cells #[.int .i64 2, .int .i64 3] 3)) (HD.out.ch0 ((Ch.refl _ _).alloc _)) (row_lit2 _ _ _) (by decide)).mono ?_
  rintro e w14 ⟨rfl, hc⟩
  have K1 := Lib.hid (show Ch (fun _ => False) w13 w14 from ((Ch.refl _ _).alloc _).trans hc)
  clear hc
  go_wp2_with fail
  refine (same_ch Ag (some ⟨w14.heap.size, 0, none⟩) cg 2 [2, 3] (w14.alloc (.cells #[.int .i64 2, .int .i64 3] 3)) ((HG.out.ch0 K1.out).ch0 ((Ch.refl _ _).alloc _)) (row_lit2 _ _ _) (by decide)).mono ?_
  rintro e w15 ⟨rfl, hc⟩
  have K2 := Lib.hid (show Ch (fun _ => False) w13 w15 from K1.out.trans (((Ch.refl _ _).alloc _).trans hc))
  clear hc
  go_wp2_with fail
  refine (same_ch Al (some ⟨w15.heap.size, 0, none⟩) cl 2 [3, 2] (w15.alloc (.cells #[.int .i64 3, .int .i64 2] 3)) ((HL.out.ch0 K2.out).ch0 ((Ch.refl _ _).alloc _)) (row_lit2 _ _ _) (by decide)).mono ?_
  rintro e w16 ⟨rfl, hc⟩
  have K3 := Lib.hid (show Ch (fun _ => False) w13 w16 from K2.out.trans (((Ch.refl _ _).alloc _).trans hc))
  clear hc
  go_wp2_with fail
  refine (push_any hb mb S11 4 w16 (HS.out.ch0 K3.out)).mono ?_
  rintro e w17 ⟨rfl, hs, hc⟩
  have HS2 : Hs w17 hb mb (⟨2, 1, [4], [(xName, 0)]⟩ : Hist) := hs
  have K4 := Lib.hid (show Hs w17 hb mb (⟨2, 1, [4], [(xName, 0)]⟩ : Hist) ∧ Ch (SH hb mb) w0 w17 from ⟨HS2, HC.out.trans ((K3.out.mono (fun _ _ h => h.elim)).trans hc)⟩)
  clear hs hc HS2
  go_wp2_with fail
  refine (undone_any hb mb _ w17 K4.out.1).mono ?_
  rintro e w18 ⟨Au, cu, he, hr, hc⟩
  obtain rfl : e = .returned (.slice Au 0 cu) := he
  have K5 := Lib.hid (show Ch (fun _ => False) w w18 from HN.out.1.trans' (K4.out.2.trans (hc.mono (fun _ _ h => h.elim))) (fun _ h => h) (by rintro i hi (rfl | rfl) <;> have := HN.out.2 <;> omega))
  clear hc hr
  go_wp2
  go_ret
  exact ⟨rfl, K5.out⟩
end Go.Proofs.Ytedpjfanfhhfdaa
