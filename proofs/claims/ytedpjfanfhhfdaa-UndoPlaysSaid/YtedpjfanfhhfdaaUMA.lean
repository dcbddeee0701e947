/- The reference's history in memory; its Back and Again. -/
import Derived.Test.YtedpjfanfhhfdaaUMarksLaw
import Derived.Test.YtedpjfanfhhfdaaRefFind
import Derived.Deep.RegionLawGrows
import Derived.BigRegion
import Derived.Deep.RegionHeld3
import Derived.IntWalk
/- The reference's history in memory: rows that are read, never written. -/
namespace Go.Proofs.Ytedpjfanfhhfdaa
open Go.ChangeMaps Go.MapKept Go.WideShapes Go.RowKit Hist
open Go.Proofs.YtedpjfanfhhfdaaW.PrintWords
open PUndoPlays (S71 k71)

abbrev kI : Kd Int := Kd.int .i64
def mk71 (p : ByteArray × Int) : S71 := ⟨p.1, p.2⟩
def un71 (x : S71) : ByteArray × Int := (x.f0, x.f1)
/-- a row of marks -/
structure RowM (w : World) (A : Option Addr) (c : Nat) (M : List (ByteArray × Int)) : Prop where
  read : k71.C w A M.length (M.map mk71)
  cap : M.length ≤ c
/-- the reference's history s, its rows in blocks of F -/
structure IsM (w : World) (F : Nat → Prop) (s : Hist) (A1 : Option Addr) (c1 : Nat) (A2 : Option Addr) (c2 : Nat) (A3 : Option Addr) (c3 : Nat) : Prop where
  one : Row w A1 c1 (s.all.take s.pos)
  two : Row w A2 c2 (s.all.drop s.pos)
  three : RowM w A3 c3 s.marks
  far1 : ∀ ad, A1 = some ad → F ad.block ∧ ad.block < w.heap.size
  far2 : ∀ ad, A2 = some ad → F ad.block ∧ ad.block < w.heap.size
  far3 : ∀ ad, A3 = some ad → F ad.block ∧ ad.block < w.heap.size
def vM (s : Hist) (A1 : Option Addr) (c1 : Nat) (A2 : Option Addr) (c2 : Nat) (A3 : Option Addr) (c3 : Nat) : Value :=
  .agg #[.int .i64 s.most, .slice A1 s.pos c1, .slice A2 (s.all.length - s.pos) c2, .slice A3 s.marks.length c3]
def HasM (w : World) (F : Nat → Prop) (s : Hist) (v : Value) : Prop := ∃ A1 c1 A2 c2 A3 c3, v = vM s A1 c1 A2 c2 A3 c3 ∧ IsM w F s A1 c1 A2 c2 A3 c3

theorem RowM.chA {S : Nat → Prop} {w w' : World} {A : Option Addr} {c : Nat} {M : List (ByteArray × Int)} (h : RowM w A c M) (k : Ch S w w') (hA : ∀ ad, A = some ad → ¬ S ad.block) : RowM w' A c M := by
  refine ⟨⟨h.read.1, h.read.2.1, fun hn => ?_⟩, h.cap⟩
  obtain ⟨ad, e, hc⟩ := h.read.2.2 hn
  refine ⟨ad, e, fun j p hp => ?_⟩
  obtain ⟨cs, h1, h2, h3⟩ := hc j p hp
  refine ⟨cs, h1, h2, fun i u hu => ?_⟩
  have h4 := h3 i u hu
  rw [← h4]
  have hlt := World.block_lt_of_cell? w _ h4
  have hb := k.block (ad.add (j * 2 + i)).block hlt (by
    have : (ad.add (j * 2 + i)).block = ad.block := by unfold Addr.add; split <;> rfl
    rw [this]; exact hA ad e)
  have e3 : k71.sz = 2 := rfl
  rw [e3]
  simp only [World.cell?, hb]
section
variable {w w' : World} {F : Nat → Prop} {s : Hist} {A1 A2 A3 : Option Addr} {c1 c2 c3 : Nat}
theorem IsM.ch {S : Nat → Prop} (h : IsM w F s A1 c1 A2 c2 A3 c3) (k : Ch S w w') (hS : ∀ i, F i → ¬ S i) : IsM w' F s A1 c1 A2 c2 A3 c3 :=
  ⟨h.one.chA k (fun _ ad e => hS _ (h.far1 ad e).1), h.two.chA k (fun _ ad e => hS _ (h.far2 ad e).1), h.three.chA k (fun ad e => hS _ (h.far3 ad e).1),
    fun ad e => ⟨(h.far1 ad e).1, Nat.lt_of_lt_of_le (h.far1 ad e).2 k.size⟩, fun ad e => ⟨(h.far2 ad e).1, Nat.lt_of_lt_of_le (h.far2 ad e).2 k.size⟩, fun ad e => ⟨(h.far3 ad e).1, Nat.lt_of_lt_of_le (h.far3 ad e).2 k.size⟩⟩
theorem IsM.imp {G : Nat → Prop} (h : IsM w F s A1 c1 A2 c2 A3 c3) (hG : ∀ i, F i → i < w.heap.size → G i) : IsM w G s A1 c1 A2 c2 A3 c3 :=
  ⟨h.one, h.two, h.three, fun ad e => ⟨hG _ (h.far1 ad e).1 (h.far1 ad e).2, (h.far1 ad e).2⟩, fun ad e => ⟨hG _ (h.far2 ad e).1 (h.far2 ad e).2, (h.far2 ad e).2⟩, fun ad e => ⟨hG _ (h.far3 ad e).1 (h.far3 ad e).2, (h.far3 ad e).2⟩⟩
theorem IsM.ch0 (h : IsM w F s A1 c1 A2 c2 A3 c3) (k : Ch (fun _ => False) w w') : IsM w' F s A1 c1 A2 c2 A3 c3 := h.ch k (fun _ _ h => h)
end
theorem C_of_row {w : World} {A : Option Addr} {c : Nat} {xs : List Int} (h : Row w A c xs) (hb : xs.length ≤ 1000000) : kI.C w A xs.length xs := by
  refine ⟨rfl, by omega, fun hn => ?_⟩
  obtain ⟨b, off, cs, fr, e, hblk, hc⟩ := h.2.2.2 (List.length_pos_iff.1 hn)
  refine ⟨_, e, fun j p hp => ⟨[.int .i64 p], rfl, rfl, fun i u hu => ?_⟩⟩
  have hi : i = 0 := by
    have := (List.getElem?_eq_some_iff.1 hu).1
    simp at this; exact this
  subst hi
  have hj := (List.getElem?_eq_some_iff.1 hp)
  obtain ⟨hj, ep⟩ := hj
  have hu' : u = .int .i64 p := by simpa using hu.symm
  rw [hu']
  show w.cell? ((⟨b, off, none⟩ : Addr).add (j * 1 + 0)) = _
  rw [h.cells e _ (.int .i64 p) (by rw [List.getElem?_map, Nat.mul_one, Nat.add_zero, hp]; rfl)]
end Go.Proofs.Ytedpjfanfhhfdaa
/- The walks of the reference's Back and Again. -/
namespace Go.Proofs.Ytedpjfanfhhfdaa
open Go.ChangeMaps Go.MapKept Go.WideShapes Go.RowKit Hist
open PUndoPlays (S71 k71)
open Go.Proofs.YtedpjfanfhhfdaaW.PrintWords Go.Proofs.YtedpjfanfhhfdaaW.PrintLast Go.Proofs.YtedpjfanfhhfdaaW.PrintMore

theorem alloc2_top (w : World) (a b : Obj) : ((w.alloc a).alloc b).heap[w.heap.size + 1]? = some b := by
  have h := (MapKept.heap_alloc (w.alloc a) b).1
  have e : (w.alloc a).heap.size = w.heap.size + 1 := by simp
  rwa [e] at h
theorem alloc2_low (w : World) (a b : Obj) : ((w.alloc a).alloc b).heap[w.heap.size]? = some a := by
  have h := (MapKept.heap_alloc w a).1
  rw [← h]
  exact ((Ch.refl (fun _ => False) (w.alloc a)).alloc b).block _ (by simp) (fun h => h)
theorem ch_alloc2 (w : World) (a b : Obj) : Ch (fun _ => False) w ((w.alloc a).alloc b) := ((Ch.refl _ w).alloc a).alloc b

set_option maxRecDepth 100000 in
set_option maxHeartbeats 1000000 in
theorem mback_none (m : Int) (A1 : Option Addr) (c1 : Nat) (A2 : Option Addr) (n2 c2 : Nat) (A3 : Option Addr) (n3 c3 : Nat) (w : World) :
    Calls Try.prog 26 #[.agg #[.int .i64 m, .slice A1 0 c1, .slice A2 n2 c2, .slice A3 n3 c3]] w fun e w' =>
      e = .returned (.tuple #[.agg #[.int .i64 m, .slice A1 0 c1, .slice A2 n2 c2, .slice A3 n3 c3], .int .i64 0, .int .i64 12]) ∧ Ch (fun _ => False) w w' := by
  have hu34 := Try.underlying34
  go_enter Try.func26, Try.ntmps26
  go_wp2
  refine bodyPost_ret (results_ctt rfl _ _ (w.heap.size + 1) 34 _ (0, 0) _ rfl (alloc2_top _ _ _) Try.underlying34 rfl (by kernel_rfl)) rfl ?_
  exact ⟨rfl, ch_alloc2 _ _ _⟩

theorem put4 {w : World} {b : Nat} {a0 a1 a2 a3 : Value} {t : TypeId} (h : w.heap[b]? = some (.cells #[a0, a1, a2, a3] t (0, 0))) (v0 v1 v2 v3 : Value) :
    ((((w.setCell ⟨b, 0, none⟩ v0).setCell ⟨b, 1, none⟩ v1).setCell ⟨b, 2, none⟩ v2).setCell ⟨b, 3, none⟩ v3).heap[b]? = some (.cells #[v0, v1, v2, v3] t (0, 0)) ∧
    Ch (· = b) w ((((w.setCell ⟨b, 0, none⟩ v0).setCell ⟨b, 1, none⟩ v1).setCell ⟨b, 2, none⟩ v2).setCell ⟨b, 3, none⟩ v3) :=
  ⟨by rw [blk_setCell (blk_setCell (blk_setCell (blk_setCell h 0 v0) 1 v1) 2 v2) 3 v3]; rfl, ((((Ch.refl (· = b) w).setCell ⟨b, 0, none⟩ (fun _ => rfl) v0).setCell ⟨b, 1, none⟩ (fun _ => rfl) v1).setCell ⟨b, 2, none⟩ (fun _ => rfl) v2).setCell ⟨b, 3, none⟩ (fun _ => rfl) v3⟩

theorem own_lit (w : World) (x : Int) : kI.R 3 (w.alloc (.cells #[.int .i64 x] 3)) w.heap.size (fun _ => True) (.slice (some ⟨w.heap.size, 0, none⟩) 1 1) [x] :=
  Kd.R_of_own ⟨rfl, .inr ⟨w.heap.size, 1, #[.int .i64 x], rfl, Nat.le_refl _, (MapKept.heap_alloc w _).1, Nat.le_refl _, by unfold maxLen; omega, rfl, rfl⟩⟩ (fun _ _ => trivial)
theorem row_of_R {w : World} {base : Nat} {ok : Nat → Prop} {v : Value} {xs : List Int} (h : kI.R 3 w base ok v xs) : ∃ A c, v = .slice A xs.length c ∧ Row w A c xs ∧ (∀ ad, A = some ad → base ≤ ad.block ∧ ad.block < w.heap.size) := by
  have ho := Kd.own_of_R h
  obtain ⟨A, c, rfl, hr⟩ := Row.of_own (xs := xs) ho
  refine ⟨A, c, rfl, hr, fun ad e => ?_⟩
  subst e
  exact ⟨own_base ho ad.block rfl, own_lt ho ad.block rfl⟩

set_option maxRecDepth 100000 in
set_option maxHeartbeats 2000000 in
theorem mback_some (m : Int) (A1 : Option Addr) (c1 k : Nat) (x : Int) (A2 : Option Addr) (n2 c2 : Nat) (ys : List Int) (A3 : Option Addr) (n3 c3 : Nat) (w : World) (hk : k < c1) (hk2 : k ≤ 1000) (hx : ∃ b off, A1 = some ⟨b, off, none⟩ ∧ w.cell? ⟨b, off + k, none⟩ = some (.int .i64 x))
    (hy : Row w A2 c2 ys) (hyl : ys.length = n2) (hy2 : n2 ≤ 1000) :
    Calls Try.prog 26 #[.agg #[.int .i64 m, .slice A1 (k + 1) c1, .slice A2 n2 c2, .slice A3 n3 c3]] w fun e w' => ∃ A' c',
      e = .returned (.tuple #[.agg #[.int .i64 m, .slice A1 k c1, .slice A' (n2 + 1) c', .slice A3 n3 c3], .int .i64 x, .int .i64 0]) ∧ Row w' A' c' (x :: ys) ∧ (∀ ad, A' = some ad → w.heap.size ≤ ad.block ∧ ad.block < w'.heap.size) ∧ Ch (fun _ => False) w w' := by
  have hu34 := Try.underlying34
  obtain ⟨b, off, rfl, hc⟩ := hx
  obtain ⟨W, hW⟩ : ∃ W, W = (w.alloc (.cells #[.int .i64 m, .slice (some ⟨b, off, none⟩) (k + 1) c1, .slice A2 n2 c2, .slice A3 n3 c3] 34)).alloc (.cells #[.int .i64 0, .slice none 0 0, .slice none 0 0, .slice none 0 0] 34) := ⟨_, rfl⟩
  have hcW : W.cell? ⟨b, off + k, none⟩ = some (.int .i64 x) := by rw [hW]; exact Lib.cell?_alloc_some _ (Lib.cell?_alloc_some _ hc)
  have b1 := alloc2_low w (.cells #[.int .i64 m, .slice (some ⟨b, off, none⟩) (k + 1) c1, .slice A2 n2 c2, .slice A3 n3 c3] 34) (.cells #[.int .i64 0, .slice none 0 0, .slice none 0 0, .slice none 0 0] 34)
  have b2 := alloc2_top w (.cells #[.int .i64 m, .slice (some ⟨b, off, none⟩) (k + 1) c1, .slice A2 n2 c2, .slice A3 n3 c3] 34) (.cells #[.int .i64 0, .slice none 0 0, .slice none 0 0, .slice none 0 0] 34)
  rw [← hW] at b1 b2
  have g0 : W.cell? ⟨w.heap.size, 0, none⟩ = some (.int .i64 m) := by rw [cell_of_blk b1]; rfl
  have g1 : W.cell? ⟨w.heap.size, 1, none⟩ = some (.slice (some ⟨b, off, none⟩) (k + 1) c1) := by rw [cell_of_blk b1]; rfl
  have g2 : W.cell? ⟨w.heap.size, 2, none⟩ = some (.slice A2 n2 c2) := by rw [cell_of_blk b1]; rfl
  have g3 : W.cell? ⟨w.heap.size, 3, none⟩ = some (.slice A3 n3 c3) := by rw [cell_of_blk b1]; rfl
  have hcut := cut_h (some ⟨b, off, none⟩) (k + 1) c1 k (by omega)
  go_enter Try.func26, Try.ntmps26
  go_upto_region 4 with (fail)
  rw [← hW]
  have hsz : W.heap.size = w.heap.size + 2 := by rw [hW]; simp
  have HW := Lib.hid (show Ch (fun _ => False) w W ∧ W.heap.size = w.heap.size + 2 ∧ W.heap[w.heap.size + 1]? = some (.cells #[.int .i64 0, .slice none 0 0, .slice none 0 0, .slice none 0 0] 34) from ⟨by rw [hW]; exact ch_alloc2 _ _ _, hsz, b2⟩)
  have HY := Lib.hid hy
  have HL := Lib.hid hyl
  clear hW hc b1 b2 hy hyl hsz
  have q1 : IntKind.i64.wrap ((k : Int) + 1 - 1) = (k : Int) := by rw [Int.add_sub_cancel]; exact IntWalk.i64_in _ (by omega)
  go_wp2
  have hwz : w.heap.size + 1 < W.heap.size := by rw [HW.out.2.1]; omega
  have hwl : w.heap.size < W.heap.size := by rw [HW.out.2.1]; omega
  have q2 : IntKind.i64.wrap (k : Int) = (k : Int) := IntWalk.i64_in _ (by omega)
  have hO : kI.R 3 (W.alloc (.cells #[.int .i64 x] 3)).drew W.heap.size (fun _ => True) (.slice (some ⟨W.heap.size, 0, none⟩) 1 1) [x] := Kd.R_drew (own_lit W x)
  have hR : kI.C (W.alloc (.cells #[.int .i64 x] 3)).drew A2 n2 ys := by
    have := C_of_row ((HY.out.ch0 HW.out.1).ch0 (((Ch.refl _ W).alloc (.cells #[.int .i64 x] 3)).drew)) (by rw [HL.out]; omega)
    rw [HL.out] at this
    exact this
  have HO := Lib.hid hO
  have HR := Lib.hid hR
  have HB := Lib.hid (show Below W.heap.size W (W.alloc (.cells #[.int .i64 x] 3)).drew from (((Ch.refl (fun _ => False) W).alloc (.cells #[.int .i64 x] 3)).drew).below (Nat.le_refl _) (fun _ _ h => h))
  clear hO hR
  go_region_held3 (fun w' => w'.cell? ⟨w.heap.size, 0, none⟩ = some (.int .i64 m) ∧ w'.cell? ⟨w.heap.size, 1, none⟩ = some (.slice (some ⟨b, off, none⟩) (k + 1) c1) ∧ w'.cell? ⟨w.heap.size, 2, none⟩ = some (.slice A2 n2 c2) ∧ w'.cell? ⟨w.heap.size, 3, none⟩ = some (.slice A3 n3 c3))
    (first | go_keep | (exact ⟨(HF.out.2.2.cell (p := ⟨w.heap.size, 0, none⟩) hwl).trans g0, (HF.out.2.2.cell (p := ⟨w.heap.size, 1, none⟩) hwl).trans g1, (HF.out.2.2.cell (p := ⟨w.heap.size, 2, none⟩) hwl).trans g2, (HF.out.2.2.cell (p := ⟨w.heap.size, 3, none⟩) hwl).trans g3⟩))
    ((refine Kd.R_append_rows_step kI (w0 := W) W.heap.size (by rfl) (.tmp 27) (.tmp 29) 26 3 (.int .i64 0) 8 rfl Try.underlying26 info3 rfl (by decide) (by omega) _ [x] ys A2 n2 c2 (fun _ => True) (fun _ => False) rfl rfl HO.out HR.out (fun _ _ h => h) (fun _ h => h.elim) (fun _ _ => trivial) HB.out ?hbase ?hl ?_; (case hbase => simp); (case hl => simp; omega); intro v1 w1 ho hb hg hat; obtain ⟨A', c', rfl, hrow, hfar⟩ := row_of_R ho; have HF := Lib.hid (show _ ∧ _ ∧ _ from ⟨hrow, hfar, hb⟩); have bz := (hb.block (w.heap.size + 1) hwz).trans HW.out.2.2; have z0 : w1.cell? ⟨w.heap.size + 1, 0, none⟩ = some (.int .i64 0) := (cell_of_blk bz 0).trans rfl; have z1 : w1.cell? ⟨w.heap.size + 1, 1, none⟩ = some (.slice none 0 0) := (cell_of_blk bz 1).trans rfl; have z2 : w1.cell? ⟨w.heap.size + 1, 2, none⟩ = some (.slice none 0 0) := (cell_of_blk bz 2).trans rfl; have z3 : w1.cell? ⟨w.heap.size + 1, 3, none⟩ = some (.slice none 0 0) := (cell_of_blk bz 3).trans rfl; have fz0 := frozen_of_blk bz 0; have fz1 := frozen_of_blk bz 1; have fz2 := frozen_of_blk bz 2; have fz3 := frozen_of_blk bz 3; clear ho hb hg hat hrow hfar))
  have HZ := Lib.hid bz
  clear bz z0 z1 z2 z3 fz0 fz1 fz2 fz3 hcut
  have P := put4 HZ.out (.int .i64 m) (.slice (some ⟨b, off, none⟩) k c1) (.slice A' (ys.length + 1) c') (.slice A3 n3 c3)
  go_wp2
  refine bodyPost_ret (results_ctt rfl _ _ (w.heap.size + 1) 34 _ (0, 0) _ rfl P.1 Try.underlying34 rfl (by kernel_rfl)) rfl ?_
  have hfar := HF.out.2.1
  refine ⟨A', c', by rw [HL.out]; rfl, HF.out.1.chA P.2 (fun _ ad e h => ?_), fun ad e => ?_, ?_⟩
  · have := (hfar ad e).1
    omega
  · have h1 := hfar ad e
    have h2 := P.2.size
    omega
  · refine (HW.out.1.trans (Ch.of_below HF.out.2.2)).trans' P.2 (fun _ h => h) (fun i hi e => ?_)
    omega
end Go.Proofs.Ytedpjfanfhhfdaa
/- The walk of the reference's Again. -/
namespace Go.Proofs.Ytedpjfanfhhfdaa
open Go.ChangeMaps Go.MapKept Go.WideShapes Go.RowKit Hist
open PUndoPlays (S71 k71)
open Go.Proofs.YtedpjfanfhhfdaaW.PrintWords Go.Proofs.YtedpjfanfhhfdaaW.PrintLast Go.Proofs.YtedpjfanfhhfdaaW.PrintMore

theorem ne1 (W : World) (e : some (W.heap.size + 1) = some W.heap.size) : False := by simp at e
theorem ne2 (W : World) (e : some W.heap.size = some (W.heap.size + 1)) : False := by simp at e

set_option maxRecDepth 100000 in
set_option maxHeartbeats 1000000 in
theorem magain_none (m : Int) (A1 : Option Addr) (n1 c1 : Nat) (A2 : Option Addr) (c2 : Nat) (A3 : Option Addr) (n3 c3 : Nat) (w : World) :
    Calls Try.prog 27 #[.agg #[.int .i64 m, .slice A1 n1 c1, .slice A2 0 c2, .slice A3 n3 c3]] w fun e w' =>
      e = .returned (.tuple #[.agg #[.int .i64 m, .slice A1 n1 c1, .slice A2 0 c2, .slice A3 n3 c3], .int .i64 0, .int .i64 12]) ∧ Ch (fun _ => False) w w' := by
  have hu34 := Try.underlying34
  go_enter Try.func27, Try.ntmps27
  go_wp2
  refine bodyPost_ret (results_ctt rfl _ _ (w.heap.size + 1) 34 _ (0, 0) _ rfl (alloc2_top _ _ _) Try.underlying34 rfl (by kernel_rfl)) rfl ?_
  exact ⟨rfl, ch_alloc2 _ _ _⟩

set_option maxRecDepth 100000 in
set_option maxHeartbeats 4000000 in
theorem magain_some (m : Int) (A1 : Option Addr) (n1 c1 : Nat) (xs : List Int) (x : Int) (A2 : Option Addr) (k c2 : Nat) (A3 : Option Addr) (n3 c3 : Nat) (w : World) (hk2 : k ≤ 1000) (hx : ∃ b off, A2 = some ⟨b, off, none⟩ ∧ w.cell? ⟨b, off, none⟩ = some (.int .i64 x))
    (hy : Row w A1 c1 xs) (hyl : xs.length = n1) (hy2 : n1 ≤ 1000) :
    Calls Try.prog 27 #[.agg #[.int .i64 m, .slice A1 n1 c1, .slice A2 (k + 1) c2, .slice A3 n3 c3]] w fun e w' => ∃ A' c',
      e = .returned (.tuple #[.agg #[.int .i64 m, .slice A' (n1 + 1) c', .slice (cutA A2 c2 1) k (c2 - 1), .slice A3 n3 c3], .int .i64 x, .int .i64 0]) ∧ Row w' A' c' (xs ++ [x]) ∧ (∀ ad, A' = some ad → w.heap.size ≤ ad.block ∧ ad.block < w'.heap.size) ∧ Ch (fun _ => False) w w' := by
  have hu34 := Try.underlying34
  obtain ⟨b, off, rfl, hc⟩ := hx
  obtain ⟨W, hW⟩ : ∃ W, W = (w.alloc (.cells #[.int .i64 m, .slice A1 n1 c1, .slice (some ⟨b, off, none⟩) (k + 1) c2, .slice A3 n3 c3] 34)).alloc (.cells #[.int .i64 0, .slice none 0 0, .slice none 0 0, .slice none 0 0] 34) := ⟨_, rfl⟩
  have hcW : W.cell? ⟨b, off, none⟩ = some (.int .i64 x) := by rw [hW]; exact Lib.cell?_alloc_some _ (Lib.cell?_alloc_some _ hc)
  have b1 := alloc2_low w (.cells #[.int .i64 m, .slice A1 n1 c1, .slice (some ⟨b, off, none⟩) (k + 1) c2, .slice A3 n3 c3] 34) (.cells #[.int .i64 0, .slice none 0 0, .slice none 0 0, .slice none 0 0] 34)
  have b2 := alloc2_top w (.cells #[.int .i64 m, .slice A1 n1 c1, .slice (some ⟨b, off, none⟩) (k + 1) c2, .slice A3 n3 c3] 34) (.cells #[.int .i64 0, .slice none 0 0, .slice none 0 0, .slice none 0 0] 34)
  rw [← hW] at b1 b2
  have g0 : W.cell? ⟨w.heap.size, 0, none⟩ = some (.int .i64 m) := by rw [cell_of_blk b1]; rfl
  have g1 : W.cell? ⟨w.heap.size, 1, none⟩ = some (.slice A1 n1 c1) := by rw [cell_of_blk b1]; rfl
  have g2 : W.cell? ⟨w.heap.size, 2, none⟩ = some (.slice (some ⟨b, off, none⟩) (k + 1) c2) := by rw [cell_of_blk b1]; rfl
  have g3 : W.cell? ⟨w.heap.size, 3, none⟩ = some (.slice A3 n3 c3) := by rw [cell_of_blk b1]; rfl
  have hcut : ∀ W : World, (Instr.slice 26 (.slice (some ⟨b, off, none⟩) (k + 1) c2) (some (.int .i64 1)) none none).run Try.prog W = .ok (.slice (cutA (some ⟨b, off, none⟩) c2 1) k (c2 - 1)) W := fun W => cut_l (some ⟨b, off, none⟩) (k + 1) c2 1 (by omega) W
  obtain ⟨A2', hA2⟩ : ∃ A, A = cutA (some ⟨b, off, none⟩) c2 1 := ⟨_, rfl⟩
  rw [← hA2] at hcut ⊢
  clear hA2
  go_enter Try.func27, Try.ntmps27
  go_upto_region 3 with (fail)
  rw [← hW]
  have hsz : W.heap.size = w.heap.size + 2 := by rw [hW]; simp
  have HW := Lib.hid (show Ch (fun _ => False) w W ∧ W.heap.size = w.heap.size + 2 ∧ W.heap[w.heap.size + 1]? = some (.cells #[.int .i64 0, .slice none 0 0, .slice none 0 0, .slice none 0 0] 34) from ⟨by rw [hW]; exact ch_alloc2 _ _ _, hsz, b2⟩)
  have HY := Lib.hid hy
  have HL := Lib.hid hyl
  clear hW hc b1 b2 hy hyl hsz
  go_wp2
  have hwz : w.heap.size + 1 < W.heap.size := by rw [HW.out.2.1]; omega
  have hwl : w.heap.size < W.heap.size := by rw [HW.out.2.1]; omega
  have HE := Lib.hid (show ∀ (W' : World) (g : Nat), W'.heap[g]? = some (.cells #[] 3 (0, 0)) → W.heap.size ≤ g → kI.R 3 W' W.heap.size (fun _ => True) (.slice (some ⟨g, 0, none⟩) 0 0) [] from
    fun W' g h hg => Kd.R_of_own ⟨rfl, .inr ⟨g, 0, #[], rfl, hg, h, Nat.le_refl _, by unfold maxLen; omega, rfl, rfl⟩⟩ (fun _ _ => trivial))
  have HX := Lib.hid (show ∀ (W' : World) (g : Nat), W'.heap[g]? = some (.cells #[.int .i64 x] 3 (0, 0)) → kI.C W' (some ⟨g, 0, none⟩) 1 [x] from
    fun W' g h => (Kd.R_reads' (Kd.R_of_own (base := 0) (ok := fun _ => True) (w := W') ⟨rfl, .inr ⟨g, 1, #[.int .i64 x], rfl, Nat.zero_le _, h, Nat.le_refl _, by unfold maxLen; omega, rfl, rfl⟩⟩ (fun _ _ => trivial) : kI.R 3 W' 0 (fun _ => True) (.slice (some ⟨g, 0, none⟩) 1 1) [x])).2.2)
  have HD := Lib.hid (show ∀ (W' : World), Ch (fun _ => False) W W' → kI.C W' A1 n1 xs from fun W' h => by
    have := C_of_row ((HY.out.ch0 HW.out.1).ch0 h) (by rw [HL.out]; omega)
    rw [HL.out] at this
    exact this)
  go_region_held3 (fun w' => w'.cell? ⟨w.heap.size, 0, none⟩ = some (.int .i64 m) ∧ w'.cell? ⟨w.heap.size, 1, none⟩ = some (.slice A1 n1 c1) ∧ w'.cell? ⟨w.heap.size, 2, none⟩ = some (.slice (some ⟨b, off, none⟩) (k + 1) c2) ∧ w'.cell? ⟨w.heap.size, 3, none⟩ = some (.slice A3 n3 c3))
    (first | go_keep | (exact ⟨(HB2.out.cell (p := ⟨w.heap.size, 0, none⟩) hwl).trans g0, (HB2.out.cell (p := ⟨w.heap.size, 1, none⟩) hwl).trans g1, (HB2.out.cell (p := ⟨w.heap.size, 2, none⟩) hwl).trans g2, (HB2.out.cell (p := ⟨w.heap.size, 3, none⟩) hwl).trans g3⟩) | (exact ⟨(HB1.out.cell (p := ⟨w.heap.size, 0, none⟩) hwl).trans g0, (HB1.out.cell (p := ⟨w.heap.size, 1, none⟩) hwl).trans g1, (HB1.out.cell (p := ⟨w.heap.size, 2, none⟩) hwl).trans g2, (HB1.out.cell (p := ⟨w.heap.size, 3, none⟩) hwl).trans g3⟩))
    (first
      | (refine Kd.R_append_rows_step kI (w0 := W) W.heap.size (by rfl) (.tmp 17) (.tmp 19) 26 3 (.int .i64 0) 8 rfl Try.underlying26 info3 rfl (by decide) (by omega) _ [] xs A1 n1 c1 (fun _ => True) (fun _ => False) rfl rfl ?aO ?aR (fun _ _ h => h) (fun _ h => h.elim) (fun _ _ => trivial) ?aB ?hbase ?hl ?_; (case aO => first | exact HE.out _ _ (MapKept.heap_alloc W _).1 (Nat.le_refl _) | exact HE.out _ _ (alloc2_low W _ _) (Nat.le_refl _) | exact HE.out _ _ (alloc2_top W _ _) (Nat.le_succ _)); (case aR => first | exact HD.out _ (((Ch.refl _ W).alloc _).drew) | exact HD.out _ ((((Ch.refl _ W).alloc _).alloc _).drew) | exact HD.out _ ((((Ch.refl _ W).alloc _).drew).alloc _)); (case aB => first | exact (((Ch.refl (fun _ => False) W).alloc _).drew).below (Nat.le_refl _) (fun _ _ h => h) | exact ((((Ch.refl (fun _ => False) W).alloc _).alloc _).drew).below (Nat.le_refl _) (fun _ _ h => h) | exact ((((Ch.refl (fun _ => False) W).alloc _).drew).alloc _).below (Nat.le_refl _) (fun _ _ h => h)); (case hbase => first | (simp; done) | (simp; omega)); (case hl => simp; omega); intro v1 w1 ho1 hb1 hg1 hat1; have HO1 := Lib.hid ho1; have HB1 := Lib.hid hb1; have HG1 := Lib.hid hg1; clear ho1 hb1 hg1 hat1)
      | (refine Kd.R_append_rows_step kI (w0 := W) W.heap.size (by rfl) (.tmp 20) (.tmp 22) 26 3 (.int .i64 0) 8 rfl Try.underlying26 info3 rfl (by decide) (by omega) _ ([] ++ xs) [x] _ 1 1 (fun _ => True) (fun _ => False) rfl rfl ?aO ?aR (fun _ _ h => h) (fun _ h => h.elim) (fun _ _ => trivial) ?aB ?hbase ?hl ?_; (case aO => first | exact HO1.out | exact Kd.R_alloc HO1.out _ | exact Kd.R_drew (Kd.R_alloc HO1.out _)); (case aR => first | exact HX.out _ _ (MapKept.heap_alloc w1 _).1 | exact HX.out _ _ ((HG1.out.block (W.heap.size + 1) (by simp) (fun e => ne1 W e)).trans (alloc2_top W _ _)) | exact HX.out _ _ ((HG1.out.block W.heap.size (by simp; omega) (fun e => ne2 W e)).trans (alloc2_low W _ _))); (case aB => first | exact HB1.out | exact below_alloc HB1.out _ | exact below_drew (below_alloc HB1.out _)); (case hbase => first | exact HB1.out.size | (have := HB1.out.size; simp; omega)); (case hl => simp [HL.out]; omega); intro v2 w2 ho2 hb2 hg2 hat2; obtain ⟨A', c', rfl, hrow, hfar⟩ := row_of_R ho2; have HB2 := Lib.hid hb2; have HF := Lib.hid (show _ ∧ _ from ⟨hrow, hfar⟩); have bz := (hb2.block (w.heap.size + 1) hwz).trans HW.out.2.2; have z0 : w2.cell? ⟨w.heap.size + 1, 0, none⟩ = some (.int .i64 0) := (cell_of_blk bz 0).trans rfl; have z1 : w2.cell? ⟨w.heap.size + 1, 1, none⟩ = some (.slice none 0 0) := (cell_of_blk bz 1).trans rfl; have z2 : w2.cell? ⟨w.heap.size + 1, 2, none⟩ = some (.slice none 0 0) := (cell_of_blk bz 2).trans rfl; have z3 : w2.cell? ⟨w.heap.size + 1, 3, none⟩ = some (.slice none 0 0) := (cell_of_blk bz 3).trans rfl; have fz0 := frozen_of_blk bz 0; have fz1 := frozen_of_blk bz 1; have fz2 := frozen_of_blk bz 2; have fz3 := frozen_of_blk bz 3; clear ho2 hb2 hg2 hat2 hrow hfar))
  all_goals
    have HZ := Lib.hid bz
    clear bz z0 z1 z2 z3 fz0 fz1 fz2 fz3 hcut
    have P := put4 HZ.out (.int .i64 m) (.slice A' (xs.length + 1) c') (.slice A2' k (c2 - 1)) (.slice A3 n3 c3)
    go_wp2
    refine bodyPost_ret (results_ctt rfl _ _ (w.heap.size + 1) 34 _ (0, 0) _ rfl P.1 Try.underlying34 rfl (by kernel_rfl)) rfl ?_
    have hfar := HF.out.2
    have hrow := HF.out.1
    rw [List.nil_append] at hrow
    refine ⟨A', c', by rw [HL.out]; rfl, hrow.chA P.2 (fun _ ad e h => ?_), fun ad e => ?_, ?_⟩
    · have := (hfar ad e).1
      omega
    · have h1 := hfar ad e
      have h2 := P.2.size
      omega
    · refine (HW.out.1.trans (Ch.of_below HB2.out)).trans' P.2 (fun _ h => h) (fun i hi e => ?_)
      omega
end Go.Proofs.Ytedpjfanfhhfdaa
/- The reference's Back and Again, told of a history. -/
namespace Go.Proofs.Ytedpjfanfhhfdaa
open Go.ChangeMaps Go.MapKept Go.WideShapes Go.RowKit Hist

theorem far_cutA {A : Option Addr} {c k : Nat} {G : Nat → Prop} (h : ∀ ad, A = some ad → G ad.block) : ∀ ad, cutA A c k = some ad → G ad.block := by
  intro ad e
  unfold cutA at e
  split at e
  · exact h ad e
  · cases A with
    | none => cases e
    | some a =>
      simp only [Option.map_some, Option.some.injEq] at e
      subst e
      have := h a rfl
      unfold Addr.add
      split <;> exact this

theorem mback (F : Nat → Prop) (s : Hist) (v : Value) (w : World) (hF : ∀ i, w.heap.size ≤ i → F i) (hok : s.Ok) (h : HasM w F s v) :
    Calls Try.prog 26 #[v] w fun e w' => ∃ v', e = .returned (.tuple #[v', .int .i64 s.backV, .int .i64 s.backE]) ∧ HasM w' F s.backS v' ∧ Ch (fun _ => False) w w' := by
  obtain ⟨A1, c1, A2, c2, A3, c3, rfl, h⟩ := h
  have hp := hok.pos
  have ha := hok.all
  have hm := hok.most
  unfold Hist.backV Hist.backE Hist.backS vM
  by_cases h0 : s.pos = 0
  · rw [if_pos h0, if_pos h0, if_pos h0, h0]
    refine (mback_none s.most A1 c1 A2 _ c2 A3 _ c3 w).mono ?_
    rintro e w' ⟨rfl, hc⟩
    exact ⟨_, rfl, ⟨A1, c1, A2, c2, A3, c3, by unfold vM; rw [h0], h.ch0 hc⟩, hc⟩
  · rw [if_neg h0, if_neg h0, if_neg h0]
    obtain ⟨k, hk⟩ : ∃ k, s.pos = k + 1 := ⟨s.pos - 1, by omega⟩
    have hl : (s.all.take s.pos).length = k + 1 := by rw [List.length_take]; omega
    obtain ⟨b, off, e, hc⟩ := h.one.at_ (i := k) (by omega)
    have hv : (s.all.take s.pos).getD k 0 = s.all.getD k 0 := by
      rw [List.getD_eq_getElem?_getD, List.getD_eq_getElem?_getD, List.getElem?_take_of_lt (by omega)]
    rw [hv] at hc
    have hcap := h.one.1
    rw [hl] at hcap
    rw [hk, Nat.add_sub_cancel]
    refine (mback_some s.most A1 c1 k (s.all.getD k 0) A2 (s.all.length - (k + 1)) c2 (s.all.drop (k + 1)) A3 s.marks.length c3 w (by omega) (by omega) ⟨b, off, e, hc⟩ (by rw [← hk]; exact h.two) (by rw [List.length_drop]) (by omega)).mono ?_
    rintro e w' ⟨A', c', rfl, hr, hf, hch⟩
    have h' := h.ch0 hch
    refine ⟨_, rfl, ⟨A1, c1, A', c', A3, c3, ?_, ?_, ?_, h'.three, h'.far1, fun ad e => ⟨hF _ (hf ad e).1, (hf ad e).2⟩, h'.far3⟩, hch⟩
    · show _ = vM s.back A1 c1 A' c' A3 c3
      unfold vM Hist.back
      simp only [hk, Nat.add_sub_cancel]
      have : s.all.length - (k + 1) + 1 = s.all.length - k := by omega
      rw [this]
    · show Row w' A1 c1 (s.all.take (s.pos - 1))
      have := h'.one.take k
      rw [List.take_take, hk, Nat.min_eq_left (by omega)] at this
      rw [hk, Nat.add_sub_cancel]
      exact this
    · show Row w' A' c' (s.all.drop (s.pos - 1))
      rw [hk, Nat.add_sub_cancel]
      have hlt : k < s.all.length := by omega
      rw [List.drop_eq_getElem_cons hlt]
      rw [List.getD_eq_getElem?_getD, List.getElem?_eq_getElem hlt] at hr
      exact hr

theorem magain (F : Nat → Prop) (s : Hist) (v : Value) (w : World) (hF : ∀ i, w.heap.size ≤ i → F i) (hok : s.Ok) (h : HasM w F s v) :
    Calls Try.prog 27 #[v] w fun e w' => ∃ v', e = .returned (.tuple #[v', .int .i64 s.againV, .int .i64 s.againE]) ∧ HasM w' F s.againS v' ∧ Ch (fun _ => False) w w' := by
  obtain ⟨A1, c1, A2, c2, A3, c3, rfl, h⟩ := h
  have hp := hok.pos
  have ha := hok.all
  have hm := hok.most
  unfold Hist.againV Hist.againE Hist.againS vM
  by_cases h0 : s.pos = s.all.length
  · rw [if_pos h0, if_pos h0, if_pos h0]
    have e0 : s.all.length - s.pos = 0 := by omega
    rw [e0]
    refine (magain_none s.most A1 _ c1 A2 c2 A3 _ c3 w).mono ?_
    rintro e w' ⟨rfl, hc⟩
    exact ⟨_, rfl, ⟨A1, c1, A2, c2, A3, c3, by unfold vM; rw [e0], h.ch0 hc⟩, hc⟩
  · rw [if_neg h0, if_neg h0, if_neg h0]
    obtain ⟨k, hk⟩ : ∃ k, s.all.length - s.pos = k + 1 := ⟨s.all.length - s.pos - 1, by omega⟩
    have hl : (s.all.drop s.pos).length = k + 1 := by rw [List.length_drop]; exact hk
    obtain ⟨b, off, e, hc⟩ := h.two.at_ (i := 0) (by omega)
    have hlt : s.pos < s.all.length := by omega
    have hv : (s.all.drop s.pos).getD 0 0 = s.all.getD s.pos 0 := by
      rw [List.getD_eq_getElem?_getD, List.getD_eq_getElem?_getD, List.getElem?_drop, Nat.add_zero]
    rw [hv, Nat.add_zero] at hc
    rw [hk]
    refine (magain_some s.most A1 s.pos c1 (s.all.take s.pos) (s.all.getD s.pos 0) A2 k c2 A3 s.marks.length c3 w (by omega) ⟨b, off, e, hc⟩ h.one (by rw [List.length_take]; omega) (by omega)).mono ?_
    rintro e w' ⟨A', c', rfl, hr, hf, hch⟩
    have h' := h.ch0 hch
    refine ⟨_, rfl, ⟨A', c', cutA A2 c2 1, c2 - 1, A3, c3, ?_, ?_, ?_, h'.three, fun ad e => ⟨hF _ (hf ad e).1, (hf ad e).2⟩, far_cutA (G := fun b => F b ∧ b < w'.heap.size) h'.far2, h'.far3⟩, hch⟩
    · show _ = vM s.again A' c' (cutA A2 c2 1) (c2 - 1) A3 c3
      unfold vM Hist.again
      simp only
      have : s.all.length - (s.pos + 1) = k := by omega
      rw [this]
    · show Row w' A' c' (s.all.take (s.pos + 1))
      rw [getD_take_last hlt]
      exact hr
    · show Row w' (cutA A2 c2 1) (c2 - 1) (s.all.drop (s.pos + 1))
      have := h'.two.drop (k := 1) (by omega)
      rwa [List.drop_drop] at this
end Go.Proofs.Ytedpjfanfhhfdaa
