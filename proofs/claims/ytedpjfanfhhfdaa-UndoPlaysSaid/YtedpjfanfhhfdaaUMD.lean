/- step, and the walk of UndoPlays. -/
import Derived.Test.YtedpjfanfhhfdaaUMC
import Derived.Test.YtedpjfanfhhfdaaUBoth
/- The walk of step: a call of both. -/
namespace Go.Proofs.Ytedpjfanfhhfdaa
open Go.ChangeMaps Go.MapKept Go.WideShapes Go.RowKit Hist
open PUndoPlays
open Go.Proofs.YtedpjfanfhhfdaaW.PrintWords Go.Proofs.YtedpjfanfhhfdaaW.PrintLast Go.Proofs.YtedpjfanfhhfdaaW.PrintMore

/-- what step hands back -/
def StepPost (w : World) (hb mb : Nat) (F : Nat → Prop) (s : Hist) (e : Ending) (w' : World) : Prop :=
  ∃ C1 e1 C2 e2 C3 e3, e = .returned (.tuple #[vM s C1 e1 C2 e2 C3 e3, .bool true]) ∧ IsM w' F s C1 e1 C2 e2 C3 e3 ∧ Hs w' hb mb s ∧ Ch (SH hb mb) w w'
theorem Hs.lt {w : World} {hb mb : Nat} {s : Hist} (h : Hs w hb mb s) : hb < w.heap.size ∧ mb < w.heap.size := by
  obtain ⟨_, _, _, _, h⟩ := h
  exact ⟨h.lt.1, h.lt.2.1⟩
theorem Hs.ok {w : World} {hb mb : Nat} {s : Hist} (h : Hs w hb mb s) : s.Ok := by
  obtain ⟨_, _, _, _, h⟩ := h
  exact h.ok
/-- what lies on the way: three blocks of step's own -/
structure Way (w wr : World) (hb mb : Nat) (F : Nat → Prop) (s0 s1 : Hist) (A1 : Option Addr) (c1 : Nat) (A2 : Option Addr) (c2 : Nat) (A3 : Option Addr) (c3 : Nat) (kd x : Int) (nm : ByteArray) : Prop where
  hs : Hs wr hb mb s1
  ism : IsM wr F s0 A1 c1 A2 c2 A3 c3
  ch : Ch (SH hb mb) w wr
  b1 : wr.heap[w.heap.size]? = some (.cells #[.int .i64 s0.most, .slice A1 s0.pos c1, .slice A2 (s0.all.length - s0.pos) c2, .slice A3 s0.marks.length c3] 34 (0, 0))
  b2 : wr.heap[w.heap.size + 1]? = some (.cells #[.int .i64 kd, .int .i64 x, .string nm] 39 (0, 0))
  b3 : wr.heap[w.heap.size + 1 + 1]? = some (.cells #[.int .i64 0, .slice none 0 0, .slice none 0 0, .slice none 0 0] 34 (0, 0))
  lt : hb < w.heap.size ∧ mb < w.heap.size
  far : ∀ i, F i → ¬ SH hb mb i
theorem Way.next {w wr w' : World} {hb mb : Nat} {F : Nat → Prop} {s0 s1 s2 : Hist} {A1 : Option Addr} {c1 : Nat} {A2 : Option Addr} {c2 : Nat} {A3 : Option Addr} {c3 : Nat} {kd x : Int} {nm : ByteArray}
    (h : Way w wr hb mb F s0 s1 A1 c1 A2 c2 A3 c3 kd x nm) (hs : Hs w' hb mb s2) (hc : Ch (SH hb mb) wr w') : Way w w' hb mb F s0 s2 A1 c1 A2 c2 A3 c3 kd x nm := by
  have hl := h.lt
  have hn : ∀ i, w.heap.size ≤ i → ¬ SH hb mb i := by rintro i hi (rfl | rfl) <;> omega
  exact ⟨hs, h.ism.ch hc h.far, h.ch.trans hc, hc.blk h.b1 (hn _ (by omega)), hc.blk h.b2 (hn _ (by omega)), hc.blk h.b3 (hn _ (by omega)), hl, h.far⟩
theorem Way.ch0 {w wr w' : World} {hb mb : Nat} {F : Nat → Prop} {s0 s1 : Hist} {A1 : Option Addr} {c1 : Nat} {A2 : Option Addr} {c2 : Nat} {A3 : Option Addr} {c3 : Nat} {kd x : Int} {nm : ByteArray}
    (h : Way w wr hb mb F s0 s1 A1 c1 A2 c2 A3 c3 kd x nm) (hc : Ch (fun _ => False) wr w') : Way w w' hb mb F s0 s1 A1 c1 A2 c2 A3 c3 kd x nm := h.next (h.hs.ch0 hc) (hc.mono (fun _ _ h => h.elim))
theorem alloc3 (w : World) (a b c : Obj) : (((w.alloc a).alloc b).alloc c).heap[w.heap.size]? = some a ∧ (((w.alloc a).alloc b).alloc c).heap[w.heap.size + 1]? = some b ∧ (((w.alloc a).alloc b).alloc c).heap[w.heap.size + 1 + 1]? = some c := by
  have h1 := alloc2_low w a b
  have h2 := alloc2_top w a b
  have hc := (Ch.refl (fun _ => False) ((w.alloc a).alloc b)).alloc c
  refine ⟨hc.blk h1 (fun h => h), hc.blk h2 (fun h => h), ?_⟩
  have h3 := (MapKept.heap_alloc ((w.alloc a).alloc b) c).1
  have e : ((w.alloc a).alloc b).heap.size = w.heap.size + 1 + 1 := by simp
  rwa [e] at h3
theorem Way.start {w : World} {hb mb : Nat} {F : Nat → Prop} {s : Hist} {A1 : Option Addr} {c1 : Nat} {A2 : Option Addr} {c2 : Nat} {A3 : Option Addr} {c3 : Nat} (kd x : Int) (nm : ByteArray) (hs : Hs w hb mb s) (hm : IsM w F s A1 c1 A2 c2 A3 c3) (hF : ∀ i, F i → ¬ SH hb mb i) :
    Way w (((w.alloc (.cells #[.int .i64 s.most, .slice A1 s.pos c1, .slice A2 (s.all.length - s.pos) c2, .slice A3 s.marks.length c3] 34)).alloc (.cells #[.int .i64 kd, .int .i64 x, .string nm] 39)).alloc (.cells #[.int .i64 0, .slice none 0 0, .slice none 0 0, .slice none 0 0] 34)) hb mb F s s A1 c1 A2 c2 A3 c3 kd x nm := by
  have hc : Ch (fun _ => False) w (((w.alloc (.cells #[.int .i64 s.most, .slice A1 s.pos c1, .slice A2 (s.all.length - s.pos) c2, .slice A3 s.marks.length c3] 34)).alloc (.cells #[.int .i64 kd, .int .i64 x, .string nm] 39)).alloc (.cells #[.int .i64 0, .slice none 0 0, .slice none 0 0, .slice none 0 0] 34)) := (((Ch.refl _ w).alloc _).alloc _).alloc _
  obtain ⟨h1, h2, h3⟩ := alloc3 w (.cells #[.int .i64 s.most, .slice A1 s.pos c1, .slice A2 (s.all.length - s.pos) c2, .slice A3 s.marks.length c3] 34) (.cells #[.int .i64 kd, .int .i64 x, .string nm] 39) (.cells #[.int .i64 0, .slice none 0 0, .slice none 0 0, .slice none 0 0] 34)
  exact ⟨hs.ch0 hc, hm.ch0 hc, hc.mono (fun _ _ h => h.elim), h1, h2, h3, hs.lt, hF⟩

/-- the contract of a call of the reference, written out -/
def RefPost (w : World) (F : Nat → Prop) (t : Hist) (rest : List Value) (e : Ending) (w' : World) : Prop :=
  ∃ C1 e1 C2 e2 C3 e3, e = .returned (.tuple (.agg #[.int .i64 t.most, .slice C1 t.pos e1, .slice C2 (t.all.length - t.pos) e2, .slice C3 t.marks.length e3] :: rest).toArray) ∧ IsM w' F t C1 e1 C2 e2 C3 e3 ∧ Ch (fun _ => False) w w'
theorem refpost {w w' : World} {F : Nat → Prop} {t : Hist} {rest : List Value} {v' : Value} (hm : HasM w' F t v') (hc : Ch (fun _ => False) w w') : RefPost w F t rest (.returned (.tuple (v' :: rest).toArray)) w' := by
  obtain ⟨C1, e1, C2, e2, C3, e3, rfl, h⟩ := hm
  exact ⟨C1, e1, C2, e2, C3, e3, rfl, h, hc⟩

theorem four {w : World} {b : Nat} {v0 v1 v2 v3 : Value} {t : TypeId} (h : w.heap[b]? = some (.cells #[v0, v1, v2, v3] t (0, 0))) :
    (w.cell? ⟨b, 0, none⟩ = some v0 ∧ w.cell? ⟨b, 1, none⟩ = some v1 ∧ w.cell? ⟨b, 2, none⟩ = some v2 ∧ w.cell? ⟨b, 3, none⟩ = some v3) ∧
    w.frozen? ⟨b, 0, none⟩ = false ∧ w.frozen? ⟨b, 1, none⟩ = false ∧ w.frozen? ⟨b, 2, none⟩ = false ∧ w.frozen? ⟨b, 3, none⟩ = false :=
  ⟨⟨(cell_of_blk h 0).trans rfl, (cell_of_blk h 1).trans rfl, (cell_of_blk h 2).trans rfl, (cell_of_blk h 3).trans rfl⟩, frozen_of_blk h 0, frozen_of_blk h 1, frozen_of_blk h 2, frozen_of_blk h 3⟩
theorem three {w : World} {b : Nat} {v0 v1 v2 : Value} {t : TypeId} (h : w.heap[b]? = some (.cells #[v0, v1, v2] t (0, 0))) :
    w.cell? ⟨b, 0, none⟩ = some v0 ∧ w.cell? ⟨b, 1, none⟩ = some v1 ∧ w.cell? ⟨b, 2, none⟩ = some v2 :=
  ⟨(cell_of_blk h 0).trans rfl, (cell_of_blk h 1).trans rfl, (cell_of_blk h 2).trans rfl⟩
theorem Way.end_ {w wr : World} {hb mb : Nat} {F : Nat → Prop} {s0 s1 : Hist} {A1 : Option Addr} {c1 : Nat} {A2 : Option Addr} {c2 : Nat} {A3 : Option Addr} {c3 : Nat} {kd x : Int} {nm : ByteArray}
    (h : Way w wr hb mb F s0 s1 A1 c1 A2 c2 A3 c3 kd x nm) {C1 : Option Addr} {e1 : Nat} {C2 : Option Addr} {e2 : Nat} {C3 : Option Addr} {e3 : Nat} (hi : IsM wr (fun i => F i ∧ i ≠ w.heap.size + 1 + 1) s1 C1 e1 C2 e2 C3 e3) :
    StepPost w hb mb F s1 (.returned (.tuple #[vM s1 C1 e1 C2 e2 C3 e3, .bool true])) ((((wr.setCell ⟨w.heap.size + 1 + 1, 0, none⟩ (.int .i64 s1.most)).setCell ⟨w.heap.size + 1 + 1, 1, none⟩ (.slice C1 s1.pos e1)).setCell ⟨w.heap.size + 1 + 1, 2, none⟩ (.slice C2 (s1.all.length - s1.pos) e2)).setCell ⟨w.heap.size + 1 + 1, 3, none⟩ (.slice C3 s1.marks.length e3)) := by
  have P := put4 h.b3 (.int .i64 s1.most) (.slice C1 s1.pos e1) (.slice C2 (s1.all.length - s1.pos) e2) (.slice C3 s1.marks.length e3)
  have hl := h.lt
  have hn : ∀ i, SH hb mb i → i ≠ w.heap.size + 1 + 1 := by rintro i (rfl | rfl) <;> omega
  refine ⟨C1, e1, C2, e2, C3, e3, rfl, (hi.ch P.2 (fun i hi e => hi.2 e)).imp (fun i hi _ => hi.1), ?_, h.ch.trans' P.2 (fun _ h => h) (fun i hi e => by omega)⟩
  obtain ⟨A, c, L, clk, hh⟩ := h.hs
  exact ⟨A, c, L, clk, hh.ch P.2 (by omega) (by omega) (fun b cs fr hb' e => by subst e; rw [h.b3] at hb'; cases hb')⟩

set_option maxRecDepth 100000 in
set_option maxHeartbeats 4000000 in
theorem step_back (hb mb : Nat) (F : Nat → Prop) (s : Hist) (x : Int) (nm : ByteArray) (w : World) (hF : ∀ i, F i → ¬ SH hb mb i) (hF2 : ∀ i, w.heap.size ≤ i → F i) (hs : Hs w hb mb s) (A1 : Option Addr) (c1 : Nat) (A2 : Option Addr) (c2 : Nat) (A3 : Option Addr) (c3 : Nat) (hm : IsM w F s A1 c1 A2 c2 A3 c3) :
    Calls Try.prog 14 #[.pointer (some ⟨hb, 0, none⟩), vM s A1 c1 A2 c2 A3 c3, .agg #[.int .i64 1, .int .i64 x, .string nm]] w (StepPost w hb mb F s.backS) := by
  have hu34 := Try.underlying34
  have hu39 := Try.underlying39
  obtain ⟨W, hW⟩ : ∃ W, W = ((w.alloc (.cells #[.int .i64 s.most, .slice A1 s.pos c1, .slice A2 (s.all.length - s.pos) c2, .slice A3 s.marks.length c3] 34)).alloc (.cells #[.int .i64 1, .int .i64 x, .string nm] 39)).alloc (.cells #[.int .i64 0, .slice none 0 0, .slice none 0 0, .slice none 0 0] 34) := ⟨_, rfl⟩
  have hw := Way.start 1 x nm hs hm hF
  rw [← hW] at hw
  unfold vM
  have hsz : W.heap.size = w.heap.size + 3 := by rw [hW]; simp
  obtain ⟨G, hG⟩ : ∃ G : Nat → Prop, G = fun i => F i ∧ i ≠ w.heap.size + 1 + 1 := ⟨_, rfl⟩
  have hbk : Calls Try.prog 26 #[.agg #[.int .i64 s.most, .slice A1 s.pos c1, .slice A2 (s.all.length - s.pos) c2, .slice A3 s.marks.length c3]] W (RefPost W G s.backS [.int .i64 s.backV, .int .i64 s.backE]) :=
    Calls.mono (mback G s _ W (fun i hi => by rw [hG]; exact ⟨hF2 i (by omega), by omega⟩) hw.hs.ok ⟨A1, c1, A2, c2, A3, c3, rfl, by rw [hG]; exact (hm.imp (fun i hi hl => ⟨hi, by omega⟩)).ch0 (by rw [hW]; exact (((Ch.refl _ w).alloc _).alloc _).alloc _)⟩) (by rintro e w' ⟨v', rfl, hm, hc⟩; exact refpost hm hc)
  have HB := Lib.hid hbk
  have HWY := Lib.hid hw
  have HG := Lib.hid hG
  obtain ⟨t, ht⟩ : ∃ t, t = s.backS := ⟨_, rfl⟩
  have hpg := fun (w' : World) (h : Hs w' hb mb s) => back_all hb mb s w' h
  rw [← ht] at HB hpg
  rw [← ht]
  obtain ⟨v, hv⟩ : ∃ v, v = s.backV := ⟨_, rfl⟩
  obtain ⟨e, he⟩ : ∃ e, e = s.backE := ⟨_, rfl⟩
  rw [← hv, ← he] at HB hpg
  have HPG := Lib.hid hpg
  clear hbk hw hs hm hF hF2 hG hpg ht hv he
  go_enter Try.func14, Try.ntmps14
  go_upto_region 3 with (fail)
  rw [← hW]
  clear hW
  obtain ⟨⟨k0, k1, k2, k3⟩, -⟩ := four HWY.out.b1
  obtain ⟨j0, j1, j2⟩ := three HWY.out.b2
  go_upto_region 4 with (go_at_call 26; refine HB.out.mono ?_; rintro e5 w5 ⟨C1, e1, C2, e2, C3, e3, rfl, his, hc5⟩; have H5 := Lib.hid (show _ ∧ _ from ⟨his, hc5⟩); clear his hc5)
  obtain ⟨W8, hW8⟩ : ∃ W8, W8 = w5.alloc (.cells #[.int .i64 t.most, .slice C1 t.pos e1, .slice C2 (t.all.length - t.pos) e2, .slice C3 t.marks.length e3] 34) := ⟨_, rfl⟩
  have hc8 : Ch (fun _ => False) w5 W8 := by rw [hW8]; exact (Ch.refl _ w5).alloc _
  have q1 := (MapKept.heap_alloc w5 (.cells #[.int .i64 t.most, .slice C1 t.pos e1, .slice C2 (t.all.length - t.pos) e2, .slice C3 t.marks.length e3] 34)).1
  rw [← hW8] at q1
  rw [← hW8]
  have hg5 : w.heap.size + 3 ≤ w5.heap.size := by have := H5.out.2.size; omega
  have H8 := Lib.hid (show _ ∧ _ ∧ _ from ⟨(HWY.out.ch0 H5.out.2).ch0 hc8, H5.out.1.ch0 hc8, q1⟩)
  clear hW8 hc8 q1 k0 k1 k2 k3 j0 j1 j2
  have HP := Lib.hid (HPG.out W8 H8.out.1.hs)
  go_upto_region 5 with (go_at_call 20; refine HP.out.mono ?_; rintro e6 w6 ⟨rfl, hs6, hc6⟩; have H6 := Lib.hid (show _ ∧ _ from ⟨hs6, hc6⟩); clear hs6 hc6)
  have hl := H8.out.1.lt
  have hy := H8.out.1.next H6.out.1 H6.out.2
  have hyg := H6.out.2.blk H8.out.2.2 (by rintro (h | h) <;> omega)
  have hyi := H8.out.2.1.ch H6.out.2 (fun i hi => H8.out.1.far i (by rw [HG.out] at hi; exact hi.1))
  have HY := Lib.hid (show _ ∧ _ from ⟨hy, hyi⟩)
  obtain ⟨⟨k0, k1, k2, k3⟩, -⟩ := four hyg
  obtain ⟨⟨z0, z1, z2, z3⟩, f0, f1, f2, f3⟩ := four hy.b3
  clear hl hy hyg hyi
  go_wp2
  clear k0 k1 k2 k3 z0 z1 z2 z3 f0 f1 f2 f3
  have P := put4 HY.out.1.b3 (.int .i64 t.most) (.slice C1 t.pos e1) (.slice C2 (t.all.length - t.pos) e2) (.slice C3 t.marks.length e3)
  refine bodyPost_ret (results_ct rfl _ _ (w.heap.size + 1 + 1) 34 _ (0, 0) _ rfl P.1 Try.underlying34 rfl (by kernel_rfl)) rfl ?_
  have hi := HY.out.2
  rw [HG.out] at hi
  exact HY.out.1.end_ hi

set_option maxRecDepth 100000 in
set_option maxHeartbeats 4000000 in
theorem step_again (hb mb : Nat) (F : Nat → Prop) (s : Hist) (x : Int) (nm : ByteArray) (w : World) (hF : ∀ i, F i → ¬ SH hb mb i) (hF2 : ∀ i, w.heap.size ≤ i → F i) (hs : Hs w hb mb s) (A1 : Option Addr) (c1 : Nat) (A2 : Option Addr) (c2 : Nat) (A3 : Option Addr) (c3 : Nat) (hm : IsM w F s A1 c1 A2 c2 A3 c3) :
    Calls Try.prog 14 #[.pointer (some ⟨hb, 0, none⟩), vM s A1 c1 A2 c2 A3 c3, .agg #[.int .i64 2, .int .i64 x, .string nm]] w (StepPost w hb mb F s.againS) := by
  have hu34 := Try.underlying34
  have hu39 := Try.underlying39
  obtain ⟨W, hW⟩ : ∃ W, W = ((w.alloc (.cells #[.int .i64 s.most, .slice A1 s.pos c1, .slice A2 (s.all.length - s.pos) c2, .slice A3 s.marks.length c3] 34)).alloc (.cells #[.int .i64 2, .int .i64 x, .string nm] 39)).alloc (.cells #[.int .i64 0, .slice none 0 0, .slice none 0 0, .slice none 0 0] 34) := ⟨_, rfl⟩
  have hw := Way.start 2 x nm hs hm hF
  rw [← hW] at hw
  unfold vM
  have hsz : W.heap.size = w.heap.size + 3 := by rw [hW]; simp
  obtain ⟨G, hG⟩ : ∃ G : Nat → Prop, G = fun i => F i ∧ i ≠ w.heap.size + 1 + 1 := ⟨_, rfl⟩
  have hbk : Calls Try.prog 27 #[.agg #[.int .i64 s.most, .slice A1 s.pos c1, .slice A2 (s.all.length - s.pos) c2, .slice A3 s.marks.length c3]] W (RefPost W G s.againS [.int .i64 s.againV, .int .i64 s.againE]) :=
    Calls.mono (magain G s _ W (fun i hi => by rw [hG]; exact ⟨hF2 i (by omega), by omega⟩) hw.hs.ok ⟨A1, c1, A2, c2, A3, c3, rfl, by rw [hG]; exact (hm.imp (fun i hi hl => ⟨hi, by omega⟩)).ch0 (by rw [hW]; exact (((Ch.refl _ w).alloc _).alloc _).alloc _)⟩) (by rintro e w' ⟨v', rfl, hm, hc⟩; exact refpost hm hc)
  have HB := Lib.hid hbk
  have HWY := Lib.hid hw
  have HG := Lib.hid hG
  obtain ⟨t, ht⟩ : ∃ t, t = s.againS := ⟨_, rfl⟩
  have hpg := fun (w' : World) (h : Hs w' hb mb s) => again_all hb mb s w' h
  rw [← ht] at HB hpg
  rw [← ht]
  obtain ⟨v, hv⟩ : ∃ v, v = s.againV := ⟨_, rfl⟩
  obtain ⟨e, he⟩ : ∃ e, e = s.againE := ⟨_, rfl⟩
  rw [← hv, ← he] at HB hpg
  have HPG := Lib.hid hpg
  clear hbk hw hs hm hF hF2 hG hpg ht hv he
  go_enter Try.func14, Try.ntmps14
  go_upto_region 7 with (fail)
  rw [← hW]
  clear hW
  obtain ⟨⟨k0, k1, k2, k3⟩, -⟩ := four HWY.out.b1
  obtain ⟨j0, j1, j2⟩ := three HWY.out.b2
  go_upto_region 8 with (go_at_call 27; refine HB.out.mono ?_; rintro e5 w5 ⟨C1, e1, C2, e2, C3, e3, rfl, his, hc5⟩; have H5 := Lib.hid (show _ ∧ _ from ⟨his, hc5⟩); clear his hc5)
  obtain ⟨W8, hW8⟩ : ∃ W8, W8 = w5.alloc (.cells #[.int .i64 t.most, .slice C1 t.pos e1, .slice C2 (t.all.length - t.pos) e2, .slice C3 t.marks.length e3] 34) := ⟨_, rfl⟩
  have hc8 : Ch (fun _ => False) w5 W8 := by rw [hW8]; exact (Ch.refl _ w5).alloc _
  have q1 := (MapKept.heap_alloc w5 (.cells #[.int .i64 t.most, .slice C1 t.pos e1, .slice C2 (t.all.length - t.pos) e2, .slice C3 t.marks.length e3] 34)).1
  rw [← hW8] at q1
  rw [← hW8]
  have hg5 : w.heap.size + 3 ≤ w5.heap.size := by have := H5.out.2.size; omega
  have H8 := Lib.hid (show _ ∧ _ ∧ _ from ⟨(HWY.out.ch0 H5.out.2).ch0 hc8, H5.out.1.ch0 hc8, q1⟩)
  clear hW8 hc8 q1 k0 k1 k2 k3 j0 j1 j2
  have HP := Lib.hid (HPG.out W8 H8.out.1.hs)
  go_upto_region 9 with (go_at_call 19; refine HP.out.mono ?_; rintro e6 w6 ⟨rfl, hs6, hc6⟩; have H6 := Lib.hid (show _ ∧ _ from ⟨hs6, hc6⟩); clear hs6 hc6)
  have hl := H8.out.1.lt
  have hy := H8.out.1.next H6.out.1 H6.out.2
  have hyg := H6.out.2.blk H8.out.2.2 (by rintro (h | h) <;> omega)
  have hyi := H8.out.2.1.ch H6.out.2 (fun i hi => H8.out.1.far i (by rw [HG.out] at hi; exact hi.1))
  have HY := Lib.hid (show _ ∧ _ from ⟨hy, hyi⟩)
  obtain ⟨⟨k0, k1, k2, k3⟩, -⟩ := four hyg
  obtain ⟨⟨z0, z1, z2, z3⟩, f0, f1, f2, f3⟩ := four hy.b3
  clear hl hy hyg hyi
  go_wp2
  clear k0 k1 k2 k3 z0 z1 z2 z3 f0 f1 f2 f3
  have P := put4 HY.out.1.b3 (.int .i64 t.most) (.slice C1 t.pos e1) (.slice C2 (t.all.length - t.pos) e2) (.slice C3 t.marks.length e3)
  refine bodyPost_ret (results_ct rfl _ _ (w.heap.size + 1 + 1) 34 _ (0, 0) _ rfl P.1 Try.underlying34 rfl (by kernel_rfl)) rfl ?_
  have hi := HY.out.2
  rw [HG.out] at hi
  exact HY.out.1.end_ hi

set_option maxRecDepth 100000 in
set_option maxHeartbeats 4000000 in
theorem step_mark (hb mb : Nat) (F : Nat → Prop) (s : Hist) (x : Int) (nm : ByteArray) (w : World) (hF : ∀ i, F i → ¬ SH hb mb i) (hF2 : ∀ i, w.heap.size ≤ i → F i) (hs : Hs w hb mb s) (A1 : Option Addr) (c1 : Nat) (A2 : Option Addr) (c2 : Nat) (A3 : Option Addr) (c3 : Nat) (hm : IsM w F s A1 c1 A2 c2 A3 c3) (hnm : nm.size ≤ maxLen) :
    Calls Try.prog 14 #[.pointer (some ⟨hb, 0, none⟩), vM s A1 c1 A2 c2 A3 c3, .agg #[.int .i64 3, .int .i64 x, .string nm]] w (StepPost w hb mb F (s.mark nm)) := by
  have hu34 := Try.underlying34
  have hu39 := Try.underlying39
  obtain ⟨W, hW⟩ : ∃ W, W = ((w.alloc (.cells #[.int .i64 s.most, .slice A1 s.pos c1, .slice A2 (s.all.length - s.pos) c2, .slice A3 s.marks.length c3] 34)).alloc (.cells #[.int .i64 3, .int .i64 x, .string nm] 39)).alloc (.cells #[.int .i64 0, .slice none 0 0, .slice none 0 0, .slice none 0 0] 34) := ⟨_, rfl⟩
  have hw := Way.start 3 x nm hs hm hF
  rw [← hW] at hw
  unfold vM
  have hsz : W.heap.size = w.heap.size + 3 := by rw [hW]; simp
  obtain ⟨G, hG⟩ : ∃ G : Nat → Prop, G = fun i => F i ∧ i ≠ w.heap.size + 1 + 1 := ⟨_, rfl⟩
  have hGM : HasM W G s (vM s A1 c1 A2 c2 A3 c3) := ⟨A1, c1, A2, c2, A3, c3, rfl, by rw [hG]; exact (hm.imp (fun i hi hl => ⟨hi, by omega⟩)).ch0 (by rw [hW]; exact (((Ch.refl _ w).alloc _).alloc _).alloc _)⟩
  have hGF : ∀ i, W.heap.size ≤ i → G i := fun i hi => by rw [hG]; exact ⟨hF2 i (by omega), by omega⟩
  have hbk : Calls Try.prog 28 #[.agg #[.int .i64 s.most, .slice A1 s.pos c1, .slice A2 (s.all.length - s.pos) c2, .slice A3 s.marks.length c3], .string nm] W (RefPost W G (s.mark nm) [.int .i64 (s.markE nm)]) :=
    Calls.mono (mmark G s nm _ W hGF hw.hs.ok hGM) (by rintro e w' ⟨v', rfl, hm, hc⟩; exact refpost hm hc)
  have HB := Lib.hid hbk
  have HWY := Lib.hid hw
  have HG := Lib.hid hG
  obtain ⟨t, ht⟩ : ∃ t, t = s.mark nm := ⟨_, rfl⟩
  have hpg := fun (w' : World) (h : Hs w' hb mb s) => mark_any hb mb s nm w' h hnm
  rw [← ht] at HB hpg
  rw [← ht]
  obtain ⟨e, he⟩ : ∃ e, e = s.markE nm := ⟨_, rfl⟩
  rw [← he] at HB hpg
  have HPG := Lib.hid hpg
  clear hbk hw hs hm hF hF2 hG hpg ht he hGM hGF
  go_enter Try.func14, Try.ntmps14
  go_upto_region 11 with (fail)
  rw [← hW]
  clear hW
  obtain ⟨⟨k0, k1, k2, k3⟩, -⟩ := four HWY.out.b1
  obtain ⟨j0, j1, j2⟩ := three HWY.out.b2
  go_upto_region 12 with (go_at_call 28; refine HB.out.mono ?_; rintro e5 w5 ⟨C1, e1, C2, e2, C3, e3, rfl, his, hc5⟩; have H5 := Lib.hid (show _ ∧ _ from ⟨his, hc5⟩); clear his hc5)
  obtain ⟨W8, hW8⟩ : ∃ W8, W8 = w5.alloc (.cells #[.int .i64 t.most, .slice C1 t.pos e1, .slice C2 (t.all.length - t.pos) e2, .slice C3 t.marks.length e3] 34) := ⟨_, rfl⟩
  have hc8 : Ch (fun _ => False) w5 W8 := by rw [hW8]; exact (Ch.refl _ w5).alloc _
  have q1 := (MapKept.heap_alloc w5 (.cells #[.int .i64 t.most, .slice C1 t.pos e1, .slice C2 (t.all.length - t.pos) e2, .slice C3 t.marks.length e3] 34)).1
  rw [← hW8] at q1
  rw [← hW8]
  have hg5 : w.heap.size + 3 ≤ w5.heap.size := by have := H5.out.2.size; omega
  have H8 := Lib.hid (show _ ∧ _ ∧ _ from ⟨(HWY.out.ch0 H5.out.2).ch0 hc8, H5.out.1.ch0 hc8, q1⟩)
  have HC8 := Lib.hid hc8
  clear hW8 hc8 q1 k0 k1 k2 k3 j0 j1 j2
  obtain ⟨⟨k0, k1, k2, k3⟩, -⟩ := four H8.out.2.2
  obtain ⟨j0, j1, j2⟩ := three H8.out.1.b2
  have hl := H8.out.1.lt
  have hne1 : w5.heap.size ≠ w.heap.size + 1 + 1 := by omega
  have hne2 : w.heap.size + 1 + 1 ≠ w5.heap.size := by omega
  go_region_held3 (fun w' => w'.cell? ⟨w5.heap.size, 0, none⟩ = some (.int .i64 t.most) ∧ w'.cell? ⟨w5.heap.size, 1, none⟩ = some (.slice C1 t.pos e1) ∧ w'.cell? ⟨w5.heap.size, 2, none⟩ = some (.slice C2 (t.all.length - t.pos) e2) ∧ w'.cell? ⟨w5.heap.size, 3, none⟩ = some (.slice C3 t.marks.length e3) ∧ w'.cell? ⟨w.heap.size + 1, 2, none⟩ = some (.string nm))
    (first | go_keep | (exact ⟨u0, u1, u2, u3, u4⟩))
    ((go_at_call 21; refine (HPG.out _ ?hh).mono ?_; (case hh => first | exact H8.out.1.hs | exact H8.out.1.hs.heap rfl); rintro e6 w6 ⟨rfl, hs6, hc6⟩; have hc6' : Ch (SH hb mb) W8 w6 := (by first | exact hc6 | exact (((Ch.refl (fun _ => False) W8).drew).mono (fun _ _ h => h.elim)).trans hc6); have hy := H8.out.1.next hs6 hc6'; have hyg := hc6'.blk H8.out.2.2 (by rintro (h | h) <;> omega); have hyi := H8.out.2.1.ch hc6' (fun i hi => H8.out.1.far i (by rw [HG.out] at hi; exact hi.1)); have HY := Lib.hid (show _ ∧ _ from ⟨hy, hyi⟩); obtain ⟨⟨u0, u1, u2, u3⟩, -⟩ := four hyg; obtain ⟨-, -, u4⟩ := three hy.b2; obtain ⟨⟨z0, z1, z2, z3⟩, f0, f1, f2, f3⟩ := four hy.b3; clear hy hyg hyi hs6 hc6 hc6'))
  go_wp2
  clear k0 k1 k2 k3 z0 z1 z2 z3 f0 f1 f2 f3 u0 u1 u2 u3 u4
  have P := put4 HY.out.1.b3 (.int .i64 t.most) (.slice C1 t.pos e1) (.slice C2 (t.all.length - t.pos) e2) (.slice C3 t.marks.length e3)
  refine bodyPost_ret (results_ct rfl _ _ (w.heap.size + 1 + 1) 34 _ (0, 0) _ rfl P.1 Try.underlying34 rfl (by kernel_rfl)) rfl ?_
  have hi := HY.out.2
  rw [HG.out] at hi
  exact HY.out.1.end_ hi

set_option maxRecDepth 100000 in
set_option maxHeartbeats 4000000 in
theorem step_to (hb mb : Nat) (F : Nat → Prop) (s : Hist) (x : Int) (nm : ByteArray) (w : World) (hF : ∀ i, F i → ¬ SH hb mb i) (hF2 : ∀ i, w.heap.size ≤ i → F i) (hs : Hs w hb mb s) (A1 : Option Addr) (c1 : Nat) (A2 : Option Addr) (c2 : Nat) (A3 : Option Addr) (c3 : Nat) (hm : IsM w F s A1 c1 A2 c2 A3 c3) (hnm : nm.size ≤ maxLen) :
    Calls Try.prog 14 #[.pointer (some ⟨hb, 0, none⟩), vM s A1 c1 A2 c2 A3 c3, .agg #[.int .i64 4, .int .i64 x, .string nm]] w (StepPost w hb mb F (toP s nm)) := by
  have hu34 := Try.underlying34
  have hu39 := Try.underlying39
  obtain ⟨W, hW⟩ : ∃ W, W = ((w.alloc (.cells #[.int .i64 s.most, .slice A1 s.pos c1, .slice A2 (s.all.length - s.pos) c2, .slice A3 s.marks.length c3] 34)).alloc (.cells #[.int .i64 4, .int .i64 x, .string nm] 39)).alloc (.cells #[.int .i64 0, .slice none 0 0, .slice none 0 0, .slice none 0 0] 34) := ⟨_, rfl⟩
  have hw := Way.start 4 x nm hs hm hF
  rw [← hW] at hw
  unfold vM
  have hsz : W.heap.size = w.heap.size + 3 := by rw [hW]; simp
  obtain ⟨G, hG⟩ : ∃ G : Nat → Prop, G = fun i => F i ∧ i ≠ w.heap.size + 1 + 1 := ⟨_, rfl⟩
  have hGM : HasM W G s (vM s A1 c1 A2 c2 A3 c3) := ⟨A1, c1, A2, c2, A3, c3, rfl, by rw [hG]; exact (hm.imp (fun i hi hl => ⟨hi, by omega⟩)).ch0 (by rw [hW]; exact (((Ch.refl _ w).alloc _).alloc _).alloc _)⟩
  have hGF : ∀ i, W.heap.size ≤ i → G i := fun i hi => by rw [hG]; exact ⟨hF2 i (by omega), by omega⟩
  have hbk : Calls Try.prog 29 #[.agg #[.int .i64 s.most, .slice A1 s.pos c1, .slice A2 (s.all.length - s.pos) c2, .slice A3 s.marks.length c3], .string nm] W (fun e w' => ∃ B d, RefPost W G (toP s nm) [.slice B (toL s nm).length d, .int .i64 (toE s nm)] e w' ∧ Row w' B d (toL s nm)) :=
    Calls.mono (mto G s nm _ W hGF hw.hs.ok hGM) (by rintro e w' ⟨v', B, d, rfl, hm, hr, hc⟩; exact ⟨B, d, refpost hm hc, hr⟩)
  have HB := Lib.hid hbk
  have HWY := Lib.hid hw
  have HG := Lib.hid hG
  have hok := hw.hs.ok
  have hll : (toL s nm).length ≤ 1000 := by
    unfold toL
    cases e : getM s.marks nm with
    | none => simp
    | some t =>
      have h1 := hok.marks _ (getM_mem e)
      have h2 := hok.all
      have h3 := hok.most
      have h4 := hok.pos
      simp only at h1
      show (s.between t.toNat).length ≤ 1000
      have := to_len s (t := s.pos) (p := t.toNat) h4 (by omega)
      have e : (s.goto s.pos) = s := rfl
      rw [e] at this
      rw [this]; split <;> omega
  obtain ⟨t, ht⟩ : ∃ t, t = toP s nm := ⟨_, rfl⟩
  have hpg := fun (w' : World) (h : Hs w' hb mb s) => to_any hb mb s nm w' h hnm
  rw [← ht] at HB hpg
  rw [← ht]
  obtain ⟨e, he⟩ : ∃ e, e = toE s nm := ⟨_, rfl⟩
  obtain ⟨ls, hls⟩ : ∃ ls, ls = toL s nm := ⟨_, rfl⟩
  rw [← he, ← hls] at HB hpg
  rw [← hls] at hll
  obtain ⟨n, hn⟩ : ∃ n, n = ls.length := ⟨_, rfl⟩
  rw [← hn] at HB hpg hll
  have HN := Lib.hid hn
  have HPG := Lib.hid hpg
  clear hbk hw hs hm hF hF2 hG hpg ht he hGM hGF hls hn hok
  go_enter Try.func14, Try.ntmps14
  go_upto_region 14 with (fail)
  rw [← hW]
  clear hW
  obtain ⟨⟨k0, k1, k2, k3⟩, -⟩ := four HWY.out.b1
  obtain ⟨j0, j1, j2⟩ := three HWY.out.b2
  go_upto_region 15 with (go_at_call 29; refine HB.out.mono ?_; rintro e5 w5 ⟨B, d, ⟨C1, e1, C2, e2, C3, e3, rfl, his, hc5⟩, hrB⟩; have H5 := Lib.hid (show _ ∧ _ from ⟨his, hc5⟩); have HRB := Lib.hid hrB; clear his hc5 hrB)
  obtain ⟨W8, hW8⟩ : ∃ W8, W8 = w5.alloc (.cells #[.int .i64 t.most, .slice C1 t.pos e1, .slice C2 (t.all.length - t.pos) e2, .slice C3 t.marks.length e3] 34) := ⟨_, rfl⟩
  have hc8 : Ch (fun _ => False) w5 W8 := by rw [hW8]; exact (Ch.refl _ w5).alloc _
  have q1 := (MapKept.heap_alloc w5 (.cells #[.int .i64 t.most, .slice C1 t.pos e1, .slice C2 (t.all.length - t.pos) e2, .slice C3 t.marks.length e3] 34)).1
  rw [← hW8] at q1
  rw [← hW8]
  have hg5 : w.heap.size + 3 ≤ w5.heap.size := by have := H5.out.2.size; omega
  have H8 := Lib.hid (show _ ∧ _ ∧ _ from ⟨(HWY.out.ch0 H5.out.2).ch0 hc8, H5.out.1.ch0 hc8, q1⟩)
  have HC8 := Lib.hid hc8
  clear hW8 hc8 q1 k0 k1 k2 k3 j0 j1 j2
  obtain ⟨⟨k0, k1, k2, k3⟩, -⟩ := four H8.out.2.2
  obtain ⟨j0, j1, j2⟩ := three H8.out.1.b2
  have hl := H8.out.1.lt
  have HRB8 := Lib.hid (HRB.out.ch0 HC8.out)
  go_upto_region 16 with (go_at_call 22; refine (HPG.out W8 H8.out.1.hs).mono ?_; rintro e6 w6 ⟨B', d', rfl, hrB', hs6, hc6⟩; have H6 := Lib.hid (show _ ∧ _ from ⟨hs6, hc6⟩); have HRB' := Lib.hid hrB'; clear hs6 hc6 hrB')
  have hy := H8.out.1.next H6.out.1 H6.out.2
  have hyg := H6.out.2.blk H8.out.2.2 (by rintro (h | h) <;> omega)
  have hyi := H8.out.2.1.ch H6.out.2 (fun i hi => H8.out.1.far i (by rw [HG.out] at hi; exact hi.1))
  have hrow6 := HRB8.out.sh H8.out.1.hs H6.out.2
  have HY6 := Lib.hid (show _ ∧ _ ∧ _ ∧ _ from ⟨hy, hyi, hyg, hrow6⟩)
  clear k0 k1 k2 k3 j0 j1 j2 hy hyi hyg hrow6
  obtain ⟨⟨k0, k1, k2, k3⟩, -⟩ := four HY6.out.2.2.1
  have hne1 : w5.heap.size ≠ w.heap.size + 1 + 1 := by omega
  have hne2 : w.heap.size + 1 + 1 ≠ w5.heap.size := by omega
  have HSM := Lib.hid (show ∀ W' : World, Ch (fun _ => False) w6 W' → Calls Try.prog 15 #[.slice B n d, .slice B' n d'] W' fun e w' => e = .returned (.bool true) ∧ Ch (fun _ => False) W' w' from fun W' h => by
    rw [HN.out]
    exact same_ch B B' d d' ls W' (HY6.out.2.2.2.ch0 h) (HRB'.out.ch0 h) (by rw [← HN.out]; omega))
  go_region_held3 (fun w' => w'.cell? ⟨w5.heap.size, 0, none⟩ = some (.int .i64 t.most) ∧ w'.cell? ⟨w5.heap.size, 1, none⟩ = some (.slice C1 t.pos e1) ∧ w'.cell? ⟨w5.heap.size, 2, none⟩ = some (.slice C2 (t.all.length - t.pos) e2) ∧ w'.cell? ⟨w5.heap.size, 3, none⟩ = some (.slice C3 t.marks.length e3))
    (first | go_keep | (exact ⟨u0, u1, u2, u3⟩))
    ((go_at_call 15; refine (HSM.out _ ?hh).mono ?_; (case hh => first | exact Ch.refl _ _ | exact (Ch.refl _ _).drew); rintro e7 w7 ⟨rfl, hc7⟩; have hc7' : Ch (fun _ => False) w6 w7 := (by first | exact hc7 | exact ((Ch.refl (fun _ => False) w6).drew).trans hc7); have HY := Lib.hid (show _ ∧ _ from ⟨HY6.out.1.ch0 hc7', HY6.out.2.1.ch0 hc7'⟩); obtain ⟨⟨u0, u1, u2, u3⟩, -⟩ := four (hc7'.blk HY6.out.2.2.1 (fun h => h)); obtain ⟨⟨z0, z1, z2, z3⟩, f0, f1, f2, f3⟩ := four HY.out.1.b3; clear hc7 hc7'))
  go_wp2
  clear k0 k1 k2 k3 z0 z1 z2 z3 f0 f1 f2 f3 u0 u1 u2 u3
  have P := put4 HY.out.1.b3 (.int .i64 t.most) (.slice C1 t.pos e1) (.slice C2 (t.all.length - t.pos) e2) (.slice C3 t.marks.length e3)
  refine bodyPost_ret (results_ct rfl _ _ (w.heap.size + 1 + 1) 34 _ (0, 0) _ rfl P.1 Try.underlying34 rfl (by kernel_rfl)) rfl ?_
  have hi := HY.out.2
  rw [HG.out] at hi
  exact HY.out.1.end_ hi

set_option maxRecDepth 100000 in
set_option maxHeartbeats 4000000 in
theorem step_push (hb mb : Nat) (F : Nat → Prop) (s : Hist) (kd x : Int) (nm : ByteArray) (w : World) (hF : ∀ i, F i → ¬ SH hb mb i) (hF2 : ∀ i, w.heap.size ≤ i → F i) (hs : Hs w hb mb s) (A1 : Option Addr) (c1 : Nat) (A2 : Option Addr) (c2 : Nat) (A3 : Option Addr) (c3 : Nat) (hm : IsM w F s A1 c1 A2 c2 A3 c3) (n1 : kd ≠ 1) (n2 : kd ≠ 2) (n3 : kd ≠ 3) (n4 : kd ≠ 4) :
    Calls Try.prog 14 #[.pointer (some ⟨hb, 0, none⟩), vM s A1 c1 A2 c2 A3 c3, .agg #[.int .i64 kd, .int .i64 x, .string nm]] w (StepPost w hb mb F (s.push x)) := by
  have hu34 := Try.underlying34
  have hu39 := Try.underlying39
  obtain ⟨W, hW⟩ : ∃ W, W = ((w.alloc (.cells #[.int .i64 s.most, .slice A1 s.pos c1, .slice A2 (s.all.length - s.pos) c2, .slice A3 s.marks.length c3] 34)).alloc (.cells #[.int .i64 kd, .int .i64 x, .string nm] 39)).alloc (.cells #[.int .i64 0, .slice none 0 0, .slice none 0 0, .slice none 0 0] 34) := ⟨_, rfl⟩
  have hw := Way.start kd x nm hs hm hF
  rw [← hW] at hw
  unfold vM
  have hsz : W.heap.size = w.heap.size + 3 := by rw [hW]; simp
  obtain ⟨G, hG⟩ : ∃ G : Nat → Prop, G = fun i => F i ∧ i ≠ w.heap.size + 1 + 1 := ⟨_, rfl⟩
  have hGM : HasM W G s (vM s A1 c1 A2 c2 A3 c3) := ⟨A1, c1, A2, c2, A3, c3, rfl, by rw [hG]; exact (hm.imp (fun i hi hl => ⟨hi, by omega⟩)).ch0 (by rw [hW]; exact (((Ch.refl _ w).alloc _).alloc _).alloc _)⟩
  have hGF : ∀ i, W.heap.size ≤ i → G i := fun i hi => by rw [hG]; exact ⟨hF2 i (by omega), by omega⟩
  have hbk : ∀ W' : World, Ch (fun _ => False) W W' → Calls Try.prog 30 #[.agg #[.int .i64 s.most, .slice A1 s.pos c1, .slice A2 (s.all.length - s.pos) c2, .slice A3 s.marks.length c3], .int .i64 x] W' fun e w' =>
      ∃ C1 e1 C2 e2 C3 e3, e = .returned (.agg #[.int .i64 (s.push x).most, .slice C1 (s.push x).pos e1, .slice C2 ((s.push x).all.length - (s.push x).pos) e2, .slice C3 (s.push x).marks.length e3]) ∧ IsM w' G (s.push x) C1 e1 C2 e2 C3 e3 ∧ Ch (fun _ => False) W' w' := fun W' hc =>
    Calls.mono (mpush G s x _ W' (fun i hi => hGF i (Nat.le_trans hc.size hi)) hw.hs.ok (by obtain ⟨_, _, _, _, _, _, e, h⟩ := hGM; exact ⟨_, _, _, _, _, _, e, h.ch0 hc⟩)) (by rintro e w' ⟨v', rfl, ⟨C1, e1, C2, e2, C3, e3, rfl, h⟩, hc⟩; exact ⟨C1, e1, C2, e2, C3, e3, rfl, h, hc⟩)
  have HB := Lib.hid hbk
  have HWY := Lib.hid hw
  have HG := Lib.hid hG
  obtain ⟨t, ht⟩ : ∃ t, t = s.push x := ⟨_, rfl⟩
  have hpg := fun (w' : World) (h : Hs w' hb mb s) => push_any hb mb s x w' h
  rw [← ht] at HB hpg
  rw [← ht]
  have HPG := Lib.hid hpg
  have b1 : (kd == 1) = false := by rw [beq_eq_false_iff_ne]; exact n1
  have b2 : (kd == 2) = false := by rw [beq_eq_false_iff_ne]; exact n2
  have b3 : (kd == 3) = false := by rw [beq_eq_false_iff_ne]; exact n3
  have b4 : (kd == 4) = false := by rw [beq_eq_false_iff_ne]; exact n4
  clear hbk hw hs hm hF hF2 hG hpg ht hGM hGF n1 n2 n3 n4
  go_enter Try.func14, Try.ntmps14
  go_upto_region 17 with (fail)
  rw [← hW]
  clear hW
  obtain ⟨⟨k0, k1, k2, k3⟩, -⟩ := four HWY.out.b1
  obtain ⟨j0, j1, j2⟩ := three HWY.out.b2
  have hl := HWY.out.lt
  have hne1 : w.heap.size ≠ w.heap.size + 1 + 1 := by omega
  have hne2 : w.heap.size + 1 + 1 ≠ w.heap.size := by omega
  have hne3 : w.heap.size + 1 ≠ w.heap.size + 1 + 1 := by omega
  have hne4 : w.heap.size + 1 + 1 ≠ w.heap.size + 1 := by omega
  go_region_held3 (fun w' => w'.cell? ⟨w.heap.size, 0, none⟩ = some (.int .i64 s.most) ∧ w'.cell? ⟨w.heap.size, 1, none⟩ = some (.slice A1 s.pos c1) ∧ w'.cell? ⟨w.heap.size, 2, none⟩ = some (.slice A2 (s.all.length - s.pos) c2) ∧ w'.cell? ⟨w.heap.size, 3, none⟩ = some (.slice A3 s.marks.length c3) ∧ w'.cell? ⟨w.heap.size + 1, 1, none⟩ = some (.int .i64 x))
    (first | go_keep | (exact ⟨u0, u1, u2, u3, u4⟩) | (exact ⟨t0, t1, t2, t3, t4⟩))
    (first
      | (go_at_call 30; refine (HB.out _ ?hh).mono ?_; (case hh => first | exact Ch.refl _ _ | exact (Ch.refl _ _).drew); rintro e5 w5 ⟨C1, e1, C2, e2, C3, e3, rfl, his, hc5⟩; have hc5' : Ch (fun _ => False) W w5 := (by first | exact hc5 | exact ((Ch.refl (fun _ => False) W).drew).trans hc5); have H5 := Lib.hid (show _ ∧ _ from ⟨HWY.out.ch0 hc5', his⟩); obtain ⟨⟨t0, t1, t2, t3⟩, -⟩ := four H5.out.1.b1; obtain ⟨-, t4, -⟩ := three H5.out.1.b2; clear his hc5 hc5')
      | (go_at_call 11; refine (HPG.out _ H5.out.1.hs).mono ?_; rintro e6 w6 ⟨rfl, hs6, hc6⟩; have hy := H5.out.1.next hs6 hc6; have hyi := H5.out.2.ch hc6 (fun i hi => HWY.out.far i (by rw [HG.out] at hi; exact hi.1)); have HY := Lib.hid (show _ ∧ _ from ⟨hy, hyi⟩); obtain ⟨⟨u0, u1, u2, u3⟩, -⟩ := four hy.b1; obtain ⟨-, u4, -⟩ := three hy.b2; obtain ⟨⟨z0, z1, z2, z3⟩, f0, f1, f2, f3⟩ := four hy.b3; clear hy hyi hs6 hc6))
  go_wp2
  clear k0 k1 k2 k3 z0 z1 z2 z3 f0 f1 f2 f3 u0 u1 u2 u3 u4
  have P := put4 HY.out.1.b3 (.int .i64 t.most) (.slice C1 t.pos e1) (.slice C2 (t.all.length - t.pos) e2) (.slice C3 t.marks.length e3)
  refine bodyPost_ret (results_ct rfl _ _ (w.heap.size + 1 + 1) 34 _ (0, 0) _ rfl P.1 Try.underlying34 rfl (by kernel_rfl)) rfl ?_
  have hi := HY.out.2
  rw [HG.out] at hi
  exact HY.out.1.end_ hi

end Go.Proofs.Ytedpjfanfhhfdaa
/- The walk of UndoPlays. -/
namespace Go.Proofs.Ytedpjfanfhhfdaa
open Go.ChangeMaps Go.MapKept Go.WideShapes Go.RowKit Hist
open PUndoPlays
open Go.Proofs.YtedpjfanfhhfdaaW.PrintWords Go.Proofs.YtedpjfanfhhfdaaW.PrintLast Go.Proofs.YtedpjfanfhhfdaaW.PrintMore

theorem step_any (hb mb : Nat) (F : Nat → Prop) (s : Hist) (a : Act1) (hnm : a.name.size ≤ maxLen) (w : World) (hF : ∀ i, F i → ¬ SH hb mb i) (hF2 : ∀ i, w.heap.size ≤ i → F i) (hs : Hs w hb mb s) (A1 : Option Addr) (c1 : Nat) (A2 : Option Addr) (c2 : Nat) (A3 : Option Addr) (c3 : Nat) (hm : IsM w F s A1 c1 A2 c2 A3 c3) :
    Calls Try.prog 14 #[.pointer (some ⟨hb, 0, none⟩), vM s A1 c1 A2 c2 A3 c3, .agg #[.int .i64 a.kind, .int .i64 a.x, .string a.name]] w (StepPost w hb mb F (s.act a)) := by
  unfold Hist.act
  by_cases n1 : a.kind = 1
  · rw [if_pos n1, n1]; exact step_back hb mb F s a.x a.name w hF hF2 hs A1 c1 A2 c2 A3 c3 hm
  · rw [if_neg n1]
    by_cases n2 : a.kind = 2
    · rw [if_pos n2, n2]; exact step_again hb mb F s a.x a.name w hF hF2 hs A1 c1 A2 c2 A3 c3 hm
    · rw [if_neg n2]
      by_cases n3 : a.kind = 3
      · rw [if_pos n3, n3]; exact step_mark hb mb F s a.x a.name w hF hF2 hs A1 c1 A2 c2 A3 c3 hm hnm
      · rw [if_neg n3]
        by_cases n4 : a.kind = 4
        · rw [if_pos n4, n4]; exact step_to hb mb F s a.x a.name w hF hF2 hs A1 c1 A2 c2 A3 c3 hm hnm
        · rw [if_neg n4]; exact step_push hb mb F s a.kind a.x a.name w hF hF2 hs A1 c1 A2 c2 A3 c3 hm n1 n2 n3 n4

/-- how the loop finds it -/
structure Plays (w wr : World) (hb mb bm : Nat) (F : Nat → Prop) (s : Hist) (A1 : Option Addr) (c1 : Nat) (A2 : Option Addr) (c2 : Nat) (A3 : Option Addr) (c3 : Nat) : Prop where
  hs : Hs wr hb mb s
  ism : IsM wr F s A1 c1 A2 c2 A3 c3
  ch : Ch (fun _ => False) w wr
  blk : wr.heap[bm]? = some (.cells #[.int .i64 s.most, .slice A1 s.pos c1, .slice A2 (s.all.length - s.pos) c2, .slice A3 s.marks.length c3] 34 (0, 0))
def PlaysLoop (w : World) (most : Int) (l : List Act1) (hb mb bm : Nat) (F : Nat → Prop) (i : Value) (wr : World) : Prop :=
  ∃ (k : Nat) (A1 : Option Addr) (c1 : Nat) (A2 : Option Addr) (c2 : Nat) (A3 : Option Addr) (c3 : Nat), k ≤ l.length ∧ i = .int .i64 k ∧ Plays w wr hb mb bm F ((l.take k).foldl Hist.act (Hist.new most)) A1 c1 A2 c2 A3 c3

/-- behind step, ahead of the store -/
structure Mid (wr W8 : World) (hb mb bm g : Nat) (F : Nat → Prop) (s t : Hist) (B1 : Option Addr) (d1 : Nat) (B2 : Option Addr) (d2 : Nat) (B3 : Option Addr) (d3 : Nat) (C1 : Option Addr) (f1 : Nat) (C2 : Option Addr) (f2 : Nat) (C3 : Option Addr) (f3 : Nat) : Prop where
  hs : Hs W8 hb mb t
  ism : IsM W8 F t C1 f1 C2 f2 C3 f3
  ch : Ch (SH hb mb) wr W8
  bg : W8.heap[g]? = some (.cells #[.int .i64 t.most, .slice C1 t.pos f1, .slice C2 (t.all.length - t.pos) f2, .slice C3 t.marks.length f3] 34 (0, 0))
  bb : W8.heap[bm]? = some (.cells #[.int .i64 s.most, .slice B1 s.pos d1, .slice B2 (s.all.length - s.pos) d2, .slice B3 s.marks.length d3] 34 (0, 0))

set_option maxRecDepth 100000 in
set_option maxHeartbeats 4000000 in
theorem plays_walk (most : Int) (A : Option Addr) (c : Nat) (l : List Act1) (w : World) (hl : Acts w A l) (hbig : l.length ≤ 9223372036854775807) (hsm : ∀ a ∈ l, a.name.size ≤ maxLen) :
    Calls Try.prog 4 #[.int .i64 most, .slice A l.length c] w fun e w' => e = .returned (.bool true) ∧ Ch (fun _ => False) w w' := by
  have hu34 := Try.underlying34
  have hu39 := Try.underlying39
  have HL := Lib.hid hl
  have HM := Lib.hid hsm
  obtain ⟨n, hn⟩ : ∃ n, n = l.length := ⟨_, rfl⟩
  rw [← hn]
  rw [← hn] at hbig
  have HN := Lib.hid hn
  clear hl hsm hn
  have HNEW := Lib.hid (fun w' => mnew most w')
  go_enter Try.func4, Try.ntmps4
  go_wp2_with fail
  refine (new_any most w).mono ?_
  rintro e w1 ⟨hb, mb, rfl, hs, hc, hb1, hb2⟩
  have H1 := Lib.hid (show _ ∧ _ ∧ _ ∧ _ from ⟨hs, hc, hb1, hb2⟩)
  clear hs hc hb1 hb2
  go_wp2_with fail
  refine (HNEW.out w1).mono ?_
  rintro e w2 ⟨v', rfl, ⟨A1, c1, A2, c2, A3, c3, rfl, hm⟩, hc2⟩
  have H2 := Lib.hid (show _ ∧ _ from ⟨hm, hc2⟩)
  unfold vM
  clear hm hc2
  by_cases hbn : 300 < n
  · go_wp2_with (go_at_call 8; refine (lives_true _).mono ?_; rintro e w3 ⟨rfl, h2⟩; have H3 := Lib.hid h2; clear h2)
    go_ret
    exact ⟨rfl, (H1.out.2.1.trans (H2.out.2.alloc _)).trans H3.out⟩
  · go_upto_region 4 with (fail)
    obtain ⟨W3, hW3⟩ : ∃ W3, W3 = w2.alloc (.cells #[.int .i64 (Hist.new most).most, .slice A1 (Hist.new most).pos c1, .slice A2 ((Hist.new most).all.length - (Hist.new most).pos) c2, .slice A3 (Hist.new most).marks.length c3] 34) := ⟨_, rfl⟩
    rw [← hW3]
    obtain ⟨bm, hbm⟩ : ∃ bm, bm = w2.heap.size := ⟨_, rfl⟩
    obtain ⟨F, hF⟩ : ∃ F : Nat → Prop, F = fun i => w1.heap.size ≤ i ∧ i ≠ bm := ⟨_, rfl⟩
    have hlt := H1.out.1.lt
    have hs12 := H2.out.2.size
    have hsw := H1.out.2.1.size
    have hst : Plays w W3 hb mb bm F (Hist.new most) A1 c1 A2 c2 A3 c3 := by
      have hc3 : Ch (fun _ => False) w2 W3 := by rw [hW3]; exact (Ch.refl _ w2).alloc _
      refine ⟨(H1.out.1.ch0 H2.out.2).ch0 hc3, (H2.out.1.imp (fun i hi hl => by rw [hF]; exact ⟨hi, by omega⟩)).ch0 hc3, (H1.out.2.1.trans H2.out.2).trans hc3, ?_⟩
      rw [hW3, hbm]; exact (MapKept.heap_alloc w2 _).1
    have HST := Lib.hid hst
    have HFF := Lib.hid (show (∀ i, F i → ¬ SH hb mb i) ∧ (∀ i, w1.heap.size ≤ i → i ≠ bm → F i) ∧ (∀ i, F i → i ≠ bm) ∧ hb < bm ∧ mb < bm ∧ w1.heap.size ≤ bm ∧ w.heap.size ≤ hb ∧ w.heap.size ≤ mb ∧ w.heap.size ≤ w1.heap.size from
      ⟨by rw [hF]; rintro i hi (h | h) <;> (have := hi.1; omega), by rw [hF]; exact fun i h1 h2 => ⟨h1, h2⟩, by rw [hF]; exact fun i h => h.2, by omega, by omega, by omega, H1.out.2.2.1, H1.out.2.2.2, hsw⟩)
    rw [← hbm]
    clear hW3 hbm hF hlt hs12 hst hsw
    go_wp2
    go_loopw [7] (fun i wr => PlaysLoop w most l hb mb bm F i wr) (fun i _ => n - (intOf i).toNat)
    case atStart => exact ⟨0, A1, c1, A2, c2, A3, c3, Nat.zero_le _, rfl, HST.out⟩
    case round =>
      clear HST H2
      obtain ⟨k, B1, d1, B2, d2, B3, d3, hk, rfl, hR⟩ := hrel
      rw [← HN.out] at hk
      obtain ⟨s, hs⟩ : ∃ s, s = (l.take k).foldl Hist.act (Hist.new most) := ⟨_, rfl⟩
      rw [← hs] at hR
      have HS := Lib.hid hs
      have HR := Lib.hid hR
      clear hs hR
      by_cases hlt : k < n
      · obtain ⟨b, off, rfl, e0, e1, e2⟩ := HL.out.at_ (j := k) (by rw [← HN.out]; exact hlt)
        have hbw : b < w.heap.size := World.block_lt_of_cell? w _ e0
        replace e0 := (World.cell?_of_block (a := ⟨b, off + k * 3, none⟩) (HR.out.ch.block b hbw (fun h => h))).trans e0
        replace e1 := (World.cell?_of_block (a := ⟨b, off + k * 3 + 1, none⟩) (HR.out.ch.block b hbw (fun h => h))).trans e1
        replace e2 := (World.cell?_of_block (a := ⟨b, off + k * 3 + 2, none⟩) (HR.out.ch.block b hbw (fun h => h))).trans e2
        have hkl : k < l.length := by rw [← HN.out]; exact hlt
        have hnm := HM.out _ (List.getElem_mem hkl)
        obtain ⟨a, ha⟩ : ∃ a, a = l[k] := ⟨_, rfl⟩
        rw [← ha] at e0 e1 e2 hnm
        have HA := Lib.hid (show ∃ h : k < l.length, a = l[k] from ⟨hkl, ha⟩)
        obtain ⟨⟨m0, m1, m2, m3⟩, g0, g1, g2, g3⟩ := four HR.out.blk
        have hl0 : (0 : Int) ≤ (k : Int) := by omega
        have hl1 : (k : Int) < (n : Int) := by omega
        have hfk := HFF.out.2.1
        have hbmr : bm < wr.heap.size := blk_size HR.out.blk
        have hw1r : w1.heap.size ≤ bm := HFF.out.2.2.2.2.2.1
        have HSTEP := Lib.hid (show ∀ W' : World, Ch (fun _ => False) wr W' → Calls Try.prog 14 #[.pointer (some ⟨hb, 0, none⟩), .agg #[.int .i64 s.most, .slice B1 s.pos d1, .slice B2 (s.all.length - s.pos) d2, .slice B3 s.marks.length d3], .agg #[.int .i64 a.kind, .int .i64 a.x, .string a.name]] W' fun e w' => ∃ C1 f1 C2 f2 C3 f3, e = .returned (.tuple #[.agg #[.int .i64 (s.act a).most, .slice C1 (s.act a).pos f1, .slice C2 ((s.act a).all.length - (s.act a).pos) f2, .slice C3 (s.act a).marks.length f3], .bool true]) ∧ IsM w' (fun i => F i ∧ (i = wr.heap.size → W'.heap.size = wr.heap.size)) (s.act a) C1 f1 C2 f2 C3 f3 ∧ Hs w' hb mb (s.act a) ∧ Ch (SH hb mb) W' w' from
          fun W' hc => step_any hb mb _ s a hnm W' (fun i hi => HFF.out.1 i hi.1) (fun i hi => ⟨HFF.out.2.1 i (by have := hc.size; omega) (by have := hc.size; omega), fun e => by have := hc.size; omega⟩) (HR.out.hs.ch0 hc) B1 d1 B2 d2 B3 d3 ((HR.out.ism.imp (fun i hi hl => ⟨hi, fun e => by omega⟩)).ch0 hc))
        clear ha hkl hnm hfk
        obtain ⟨t, ht⟩ : ∃ t, t = s.act a := ⟨_, rfl⟩
        rw [← ht] at HSTEP
        have HT := Lib.hid ht
        clear ht
        have hw1 := HFF.out.2.2.2.2.2.2
        have hbh := HFF.out.2.2.2.1
        have hbk := HFF.out.2.2.2.2.1
        have hnb : ¬ SH hb mb b := by rintro (h | h) <;> omega
        have hnm' : ¬ SH hb mb bm := by rintro (h | h) <;> omega
        have hbr : b < wr.heap.size := by have := HR.out.ch.size; omega
        have hneb : b ≠ bm := by omega
        have hnz : ¬ SH hb mb wr.heap.size := by rintro (h | h) <;> omega
        have hn1 : wr.heap.size ≠ bm := by omega
        have hn2 : bm ≠ wr.heap.size := by omega
        have hn3 : b ≠ wr.heap.size := by omega
        have hn4 : wr.heap.size ≠ b := by omega
        go_upto_region 7 with (fail)
        go_region_held3 (fun w' => (w'.cell? ⟨bm, 0, none⟩ = some (.int .i64 s.most) ∧ w'.cell? ⟨bm, 1, none⟩ = some (.slice B1 s.pos d1) ∧ w'.cell? ⟨bm, 2, none⟩ = some (.slice B2 (s.all.length - s.pos) d2) ∧ w'.cell? ⟨bm, 3, none⟩ = some (.slice B3 s.marks.length d3)) ∧ w'.cell? ⟨b, off + k * 3, none⟩ = some (.int .i64 a.kind) ∧ w'.cell? ⟨b, off + k * 3 + 1, none⟩ = some (.int .i64 a.x) ∧ w'.cell? ⟨b, off + k * 3 + 2, none⟩ = some (.string a.name))
          (first | go_keep | (exact ⟨⟨r0, r1, r2, r3⟩, q0, q1, q2⟩))
          ((go_at_call 14; refine (HSTEP.out _ ?hh).mono ?_; (case hh => first | exact Ch.refl _ _ | exact (Ch.refl _ _).drew | exact ((Ch.refl _ _).alloc _).drew | exact ((Ch.refl _ _).drew).alloc _); rintro e5 w5 ⟨C1, f1, C2, f2, C3, f3, rfl, his, hs5, hc5⟩; have hcr : Ch (SH hb mb) wr w5 := (by first | exact hc5 | exact (((Ch.refl (fun _ => False) wr).drew).mono (fun _ _ h => h.elim)).trans hc5 | exact ((((Ch.refl (fun _ => False) wr).alloc _).drew).mono (fun _ _ h => h.elim)).trans hc5 | exact ((((Ch.refl (fun _ => False) wr).drew).alloc _).mono (fun _ _ h => h.elim)).trans hc5); have H5 := Lib.hid (show _ ∧ _ ∧ _ from ⟨his, hs5, hcr⟩); (first | (have bz := hc5.blk (MapKept.heap_alloc wr (.cells #[.int .i64 0, .slice none 0 0, .slice none 0 0, .slice none 0 0] 34)).1 hnz; obtain ⟨⟨y0, y1, y2, y3⟩, y4, y5, y6, y7⟩ := four bz; have HBZ := Lib.hid bz; clear bz) | skip); obtain ⟨⟨r0, r1, r2, r3⟩, -⟩ := four (hcr.blk HR.out.blk hnm'); have q0 := (World.cell?_of_block (a := ⟨b, off + k * 3, none⟩) (hcr.block b hbr hnb)).trans e0; have q1 := (World.cell?_of_block (a := ⟨b, off + k * 3 + 1, none⟩) (hcr.block b hbr hnb)).trans e1; have q2 := (World.cell?_of_block (a := ⟨b, off + k * 3 + 2, none⟩) (hcr.block b hbr hnb)).trans e2; clear his hs5 hcr hc5))
        all_goals first
          | (obtain ⟨W8, hW8⟩ : ∃ W8, W8 = w5.alloc (.cells #[.int .i64 t.most, .slice C1 t.pos f1, .slice C2 (t.all.length - t.pos) f2, .slice C3 t.marks.length f3] 34) := ⟨_, rfl⟩
             rw [← hW8]
             have hc8 : Ch (fun _ => False) w5 W8 := by rw [hW8]; exact (Ch.refl _ w5).alloc _
             have HMID := Lib.hid (show Mid wr W8 hb mb bm w5.heap.size F s t B1 d1 B2 d2 B3 d3 C1 f1 C2 f2 C3 f3 from
               ⟨H5.out.2.1.ch0 hc8, (H5.out.1.imp (fun i hi _ => hi.1)).ch0 hc8, H5.out.2.2.trans (hc8.mono (fun _ _ h => h.elim)), by rw [hW8]; exact (MapKept.heap_alloc w5 _).1, hc8.blk (H5.out.2.2.blk HR.out.blk hnm') (fun h => h)⟩)
             have hgne : w5.heap.size ≠ bm := by have := H5.out.2.2.size; omega
             obtain ⟨g, hg⟩ : ∃ g, g = w5.heap.size := ⟨_, rfl⟩
             rw [← hg] at HMID hgne ⊢
             clear hW8 hc8 hg H5)
          | (obtain ⟨W8, hW8⟩ : ∃ W8, W8 = (((w5.setCell ⟨wr.heap.size, 0, none⟩ (.int .i64 t.most)).setCell ⟨wr.heap.size, 1, none⟩ (.slice C1 t.pos f1)).setCell ⟨wr.heap.size, 2, none⟩ (.slice C2 (t.all.length - t.pos) f2)).setCell ⟨wr.heap.size, 3, none⟩ (.slice C3 t.marks.length f3) := ⟨_, rfl⟩
             have P := put4 HBZ.out (.int .i64 t.most) (.slice C1 t.pos f1) (.slice C2 (t.all.length - t.pos) f2) (.slice C3 t.marks.length f3)
             rw [← hW8] at P ⊢
             have HMID := Lib.hid (show Mid wr W8 hb mb bm wr.heap.size F s t B1 d1 B2 d2 B3 d3 C1 f1 C2 f2 C3 f3 from by
               obtain ⟨_, _, _, _, hh⟩ := H5.out.2.1
               refine ⟨⟨_, _, _, _, hh.ch P.2 (by omega) (by omega) (fun b cs fr hb' e => by subst e; rw [HBZ.out] at hb'; cases hb')⟩, ((H5.out.1.ch P.2 (fun i hi e => by have := hi.2 e; simp at this)).imp (fun i hi _ => hi.1)), H5.out.2.2.trans' P.2 (fun _ h => h) (fun i hi e => by omega), P.1, P.2.blk (H5.out.2.2.blk HR.out.blk hnm') (by omega)⟩)
             have hgne : wr.heap.size ≠ bm := by omega
             obtain ⟨g, hg⟩ : ∃ g, g = wr.heap.size := ⟨_, rfl⟩
             rw [← hg] at HMID hgne
             rw [← hg]
             clear hW8 P hg H5 HBZ y0 y1 y2 y3 y4 y5 y6 y7)
        all_goals
          clear m0 m1 m2 m3 g0 g1 g2 g3 e0 e1 e2 r0 r1 r2 r3 q0 q1 q2
          obtain ⟨⟨m0, m1, m2, m3⟩, -⟩ := four HMID.out.bg
          obtain ⟨⟨r0, r1, r2, r3⟩, g0, g1, g2, g3⟩ := four HMID.out.bb
          go_upto_region 9 with (fail)
          have P := put4 HMID.out.bb (.int .i64 t.most) (.slice C1 t.pos f1) (.slice C2 (t.all.length - t.pos) f2) (.slice C3 t.marks.length f3)
          obtain ⟨W9, hW9⟩ : ∃ W9, W9 = (((W8.setCell ⟨bm, 0, none⟩ (.int .i64 t.most)).setCell ⟨bm, 1, none⟩ (.slice C1 t.pos f1)).setCell ⟨bm, 2, none⟩ (.slice C2 (t.all.length - t.pos) f2)).setCell ⟨bm, 3, none⟩ (.slice C3 t.marks.length f3) := ⟨_, rfl⟩
          rw [← hW9] at P ⊢
          have HPL := Lib.hid (show Plays w W9 hb mb bm F t C1 f1 C2 f2 C3 f3 from by
            obtain ⟨_, _, _, _, hh⟩ := HMID.out.hs
            refine ⟨⟨_, _, _, _, hh.ch P.2 (by omega) (by omega) (fun b cs fr hb' e => by subst e; rw [HMID.out.bb] at hb'; cases hb')⟩, HMID.out.ism.ch P.2 (fun i hi e => HFF.out.2.2.1 i hi e), ?_, P.1⟩
            exact (HR.out.ch.trans' HMID.out.ch (fun _ h => h) (fun i hi h => by rcases h with h | h <;> omega)).trans' P.2 (fun _ h => h) (fun i hi e => by omega))
          clear hW9 P m0 m1 m2 m3 r0 r1 r2 r3 g0 g1 g2 g3
          obtain ⟨⟨m0, m1, m2, m3⟩, -⟩ := four HPL.out.blk
          have hok := HPL.out.hs.ok
          have hp1 := hok.pos
          have hp2 := hok.all
          have hp3 := hok.most
          have hl1 : (t.all.take t.pos).length = t.pos := by rw [List.length_take]; omega
          have hl2 : (t.all.drop t.pos).length = t.all.length - t.pos := by rw [List.length_drop]
          have HD := Lib.hid (show ∀ X, Ch (fun _ => False) W9 X → Calls Try.prog 9 #[.pointer (some ⟨hb, 0, none⟩)] X fun e w' => ∃ A' c', e = .returned (.slice A' t.pos c') ∧ Row w' A' c' (t.all.take t.pos) ∧ Ch (fun _ => False) W9 w' from fun X hX =>
            Calls.mono (done_any hb mb t X (HPL.out.hs.ch0 hX)) (by rintro e w' ⟨A', c', he, hr, hc⟩; exact ⟨A', c', he, hr, hX.trans hc⟩))
          have HU := Lib.hid (show ∀ X, Ch (fun _ => False) W9 X → Calls Try.prog 10 #[.pointer (some ⟨hb, 0, none⟩)] X fun e w' => ∃ A' c', e = .returned (.slice A' (t.all.length - t.pos) c') ∧ Row w' A' c' (t.all.drop t.pos) ∧ Ch (fun _ => False) W9 w' from fun X hX =>
            Calls.mono (undone_any hb mb t X (HPL.out.hs.ch0 hX)) (by rintro e w' ⟨A', c', he, hr, hc⟩; exact ⟨A', c', he, hr, hX.trans hc⟩))
          have HS1 := Lib.hid (show ∀ X A' c', Ch (fun _ => False) W9 X → Row X A' c' (t.all.take t.pos) → Calls Try.prog 15 #[.slice A' t.pos c', .slice C1 t.pos f1] X fun e w' => e = .returned (.bool true) ∧ Ch (fun _ => False) W9 w' from fun X A' c' hX hr => by
            have := same_ch A' C1 c' f1 (t.all.take t.pos) X hr (HPL.out.ism.ch0 hX).one (by omega)
            rw [hl1] at this
            exact this.mono (by rintro e w' ⟨he, hc⟩; exact ⟨he, hX.trans hc⟩))
          have HS2 := Lib.hid (show ∀ X A' c', Ch (fun _ => False) W9 X → Row X A' c' (t.all.drop t.pos) → Calls Try.prog 15 #[.slice A' (t.all.length - t.pos) c', .slice C2 (t.all.length - t.pos) f2] X fun e w' => e = .returned (.bool true) ∧ Ch (fun _ => False) W9 w' from fun X A' c' hX hr => by
            have := same_ch A' C2 c' f2 (t.all.drop t.pos) X hr (HPL.out.ism.ch0 hX).two (by omega)
            rw [hl2] at this
            exact this.mono (by rintro e w' ⟨he, hc⟩; exact ⟨he, hX.trans hc⟩))
          obtain ⟨ns, hns⟩ : ∃ ns, Named t ns := ⟨_, named_isort hok⟩
          obtain ⟨nn, hnn⟩ : ∃ nn, nn = ns.length := ⟨_, rfl⟩
          have HM1 := Lib.hid (show ∀ X, Ch (fun _ => False) W9 X → Calls Try.prog 17 #[.pointer (some ⟨hb, 0, none⟩)] X fun e w' => ∃ A' c', e = .returned (.slice A' nn c') ∧ RowS w' A' c' ns ∧ Ch (fun _ => False) W9 w' from fun X hX =>
            Calls.mono (marks_any hb mb t X (HPL.out.hs.ch0 hX)) (by rintro e w' ⟨A', c', ns', he, hr, -, hN, hc⟩; obtain rfl := hN.unique hns; exact ⟨A', c', by rw [he, hnn], hr, hX.trans hc⟩))
          have HM2 := Lib.hid (show ∀ X, Ch (fun _ => False) W9 X → Calls Try.prog 18 #[.agg #[.int .i64 t.most, .slice C1 t.pos f1, .slice C2 (t.all.length - t.pos) f2, .slice C3 t.marks.length f3]] X fun e w' => ∃ A' c', e = .returned (.slice A' nn c') ∧ RowS w' A' c' ns ∧ Ch (fun _ => False) W9 w' ∧ Ch (fun _ => False) X w' from fun X hX =>
            Calls.mono (mmarks F t _ X hok ⟨C1, f1, C2, f2, C3, f3, rfl, HPL.out.ism.ch0 hX⟩) (by rintro e w' ⟨A', c', ns', he, hr, hN, hc⟩; obtain rfl := hN.unique hns; exact ⟨A', c', by rw [he, hnn], hr, hX.trans hc, hc⟩))
          have HS3 := Lib.hid (show ∀ X A' c' B' d', Ch (fun _ => False) W9 X → RowS X A' c' ns → RowS X B' d' ns → Calls Try.prog 16 #[.slice A' nn c', .slice B' nn d'] X fun e w' => e = .returned (.bool true) ∧ Ch (fun _ => False) W9 w' from fun X A' c' B' d' hX h1 h2 => by
            rw [hnn]
            have hn16 : ns.length ≤ 16 := by rw [hns.len]; exact hok.count
            exact (sameT_true A' B' c' d' ns X h1 h2 (by omega)).mono (by rintro e w' ⟨he, q, rfl⟩; exact ⟨he, hX.drewN q⟩))
          clear hok hp1 hp2 hp3 hl1 hl2 hns hnn
          have hcc := Lib.hid (Ch.refl (fun _ => False) W9)
          go_region_held3 (fun w' => w'.cell? ⟨bm, 0, none⟩ = some (.int .i64 t.most) ∧ w'.cell? ⟨bm, 1, none⟩ = some (.slice C1 t.pos f1) ∧ w'.cell? ⟨bm, 2, none⟩ = some (.slice C2 (t.all.length - t.pos) f2) ∧ w'.cell? ⟨bm, 3, none⟩ = some (.slice C3 t.marks.length f3))
            (first | go_keep | (exact ⟨r0, r1, r2, r3⟩))
            (first
            | ((go_at_call 9; refine (HD.out _ ?hh).mono ?_; (case hh => first | exact hcc.out | exact hcc.out.drew); rintro e7 w7 ⟨D1, h1, rfl, hr7, hc7⟩; have hcc := Lib.hid hc7; have hrw := Lib.hid hr7; obtain ⟨⟨r0, r1, r2, r3⟩, -⟩ := four (hcc.out.blk HPL.out.blk (fun h => h)); clear hr7 hc7))
            | ((go_at_call 10; refine (HU.out _ ?hh).mono ?_; (case hh => first | exact hcc.out | exact hcc.out.drew); rintro e7 w7 ⟨D1, h1, rfl, hr7, hc7⟩; have hcc := Lib.hid hc7; have hrw := Lib.hid hr7; obtain ⟨⟨r0, r1, r2, r3⟩, -⟩ := four (hcc.out.blk HPL.out.blk (fun h => h)); clear hr7 hc7))
            | ((go_at_call 15; (with_reducible refine (HS1.out _ _ _ ?hh ?hr).mono ?_); (case hh => first | exact hcc.out | exact hcc.out.drew); (case hr => first | exact hrw.out | exact hrw.out.ch0 ((Ch.refl _ _).drew)); rintro e7 w7 ⟨rfl, hc7⟩; have hcc := Lib.hid hc7; obtain ⟨⟨r0, r1, r2, r3⟩, -⟩ := four (hcc.out.blk HPL.out.blk (fun h => h)); clear hc7))
            | ((go_at_call 15; (with_reducible refine (HS2.out _ _ _ ?hh ?hr).mono ?_); (case hh => first | exact hcc.out | exact hcc.out.drew); (case hr => first | exact hrw.out | exact hrw.out.ch0 ((Ch.refl _ _).drew)); rintro e7 w7 ⟨rfl, hc7⟩; have hcc := Lib.hid hc7; obtain ⟨⟨r0, r1, r2, r3⟩, -⟩ := four (hcc.out.blk HPL.out.blk (fun h => h)); clear hc7))
            | ((go_at_call 17; refine (HM1.out _ ?hh).mono ?_; (case hh => first | exact hcc.out | exact hcc.out.drew); rintro e7 w7 ⟨D1, h1, rfl, hr7, hc7⟩; have hcc := Lib.hid hc7; have hrs := Lib.hid hr7; obtain ⟨⟨r0, r1, r2, r3⟩, -⟩ := four (hcc.out.blk HPL.out.blk (fun h => h)); clear hr7 hc7))
            | ((go_at_call 18; refine (HM2.out _ ?hh).mono ?_; (case hh => first | exact hcc.out | exact hcc.out.drew); rintro e7 w7 ⟨D2, h2, rfl, hr7, hc7, hd7⟩; have hcc := Lib.hid hc7; have hrs1 := Lib.hid (hrs.out.ch0 hd7); have hrs2 := Lib.hid hr7; obtain ⟨⟨r0, r1, r2, r3⟩, -⟩ := four (hcc.out.blk HPL.out.blk (fun h => h)); clear hr7 hc7 hd7))
            | ((go_at_call 16; refine (HS3.out _ _ _ _ _ ?hh hrs1.out hrs2.out).mono ?_; (case hh => first | exact hcc.out | exact hcc.out.drew); rintro e7 w7 ⟨rfl, hc7⟩; have hcc := Lib.hid hc7; obtain ⟨⟨r0, r1, r2, r3⟩, -⟩ := four (hcc.out.blk HPL.out.blk (fun h => h)); clear hc7)))
          go_wp2
          go_roundw
          case rel =>
            obtain ⟨hkl, ha⟩ := HA.out
            have e : (l.take (k + 1)).foldl Hist.act (Hist.new most) = t := by rw [foldl_take _ _ _ _ hkl, ← HS.out, ← ha, HT.out]
            refine ⟨k + 1, C1, f1, C2, f2, C3, f3, hkl, by go_num, ?_⟩
            rw [e]
            exact ⟨HPL.out.hs.ch0 hcc.out, HPL.out.ism.ch0 hcc.out, HPL.out.ch.trans hcc.out, hcc.out.blk HPL.out.blk (fun h => h)⟩
          case measure => simp [intOf]; omega
      · go_wp2_with (go_at_call 8; refine (lives_true _).mono ?_; rintro e w8 ⟨rfl, h2⟩; have H8 := Lib.hid h2; clear h2)
        go_ret
        exact ⟨rfl, HR.out.ch.trans H8.out⟩
end Go.Proofs.Ytedpjfanfhhfdaa
