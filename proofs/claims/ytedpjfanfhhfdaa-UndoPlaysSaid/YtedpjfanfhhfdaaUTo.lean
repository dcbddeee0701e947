/- The walk of To. -/
import Derived.Test.YtedpjfanfhhfdaaUMark
namespace Go.Proofs.Ytedpjfanfhhfdaa
open Go.ChangeMaps Go.MapKept Go.WideShapes Go.RowKit Hist

theorem own_ch {S : Nat → Prop} {w w' : World} {base n : Nat} {e : TypeId} {size : Nat} {v : Value} {xs : List Value} (h : w.ownsRow base e size v n xs) (k : Ch S w w') (hS : ∀ i, base ≤ i → ¬ S i) : w'.ownsRow base e size v n xs := by
  obtain ⟨hl, h⟩ := h
  refine ⟨hl, ?_⟩
  rcases h with h | ⟨g, cap, cur, rfl, hb, hblk, r⟩
  · exact .inl h
  · exact .inr ⟨g, cap, cur, rfl, hb, k.blk hblk (hS g hb), r⟩
theorem Row.chA {S : Nat → Prop} {w w' : World} {A : Option Addr} {c : Nat} {xs : List Int} (h : Row w A c xs) (k : Ch S w w') (hA : xs ≠ [] → ∀ ad, A = some ad → ¬ S ad.block) : Row w' A c xs :=
  ⟨h.1, h.2.1, h.2.2.1, fun hx => by
    obtain ⟨b, off, cs, fr, e, hb, hc⟩ := h.2.2.2 hx
    exact ⟨b, off, cs, fr, e, k.blk hb (hA hx _ e), hc⟩⟩
theorem IsH.chA {S : Nat → Prop} {w w' : World} {hb mb : Nat} {s : Hist} {A : Option Addr} {c : Nat} {L : List Ent} {clk : Nat} (h : IsH w hb mb s A c L clk) (k : Ch S w w') (h1 : ¬ S hb) (h2 : ¬ S mb)
    (h3 : s.all ≠ [] → ∀ ad, A = some ad → ¬ S ad.block) : IsH w' hb mb s A c L clk :=
  ⟨k.blk h.blk h1, h.row.chA k h3, h.map.ch k h2, h.perm, h.ok⟩
theorem IsH.lt {w : World} {hb mb : Nat} {s : Hist} {A : Option Addr} {c : Nat} {L : List Ent} {clk : Nat} (h : IsH w hb mb s A c L clk) : hb < w.heap.size ∧ mb < w.heap.size ∧ (s.all ≠ [] → ∀ ad, A = some ad → ad.block < w.heap.size) :=
  ⟨blk_size h.blk, h.map.lt, fun hx ad e => by
    obtain ⟨b, off, cs, fr, e', hb, hc⟩ := h.row.2.2.2 hx
    rw [e] at e'; cases e'; exact blk_size hb⟩

/-- what holds while To goes: the place is p, so much has been told -/
structure ToRel (w : World) (hb mb : Nat) (s : Hist) (A : Option Addr) (c : Nat) (L : List Ent) (clk : Nat) (p : Nat) (xs : List Int) (v : Value) (wr : World) : Prop where
  hs : IsH wr hb mb (s.goto p) A c L clk
  own : wr.ownsRow w.heap.size 3 1 v xs.length (xs.map (Value.int .i64))
  ch : Ch (SH hb mb) w wr

theorem to_step {w w1 w2 : World} {hb mb : Nat} {s : Hist} {A : Option Addr} {c : Nat} {L : List Ent} {clk p q : Nat} {xs : List Int} {v v' : Value} {wr : World} {x : Int} (h0 : IsH w hb mb s A c L clk)
    (h : ToRel w hb mb s A c L clk p xs v wr) (hs1 : IsH w1 hb mb (s.goto q) A c L clk) (hc1 : Ch (SH hb mb) wr w1)
    (hown' : w2.ownsRow w.heap.size 3 1 v' (xs.length + 1) (xs.map (Value.int .i64) ++ [.int .i64 x])) (hgrow : (w1.alloc (.cells #[.int .i64 x] 3)).grownBy w2 v.ownBlock) :
    ToRel w hb mb s A c L clk q (xs ++ [x]) v' w2 := by
  obtain ⟨l1, l2, l3⟩ := h0.lt
  have hb0 : ∀ k, v.ownBlock = some k → w.heap.size ≤ k := by
    intro k hk
    obtain ⟨_, h⟩ := h.own
    rcases h with ⟨rfl, _⟩ | ⟨g, cap, cur, rfl, hb, _⟩
    · cases hk
    · simp [Value.ownBlock] at hk; omega
  have k2 : Ch (fun i => v.ownBlock = some i) w1 w2 := ((Ch.refl (fun _ => False) w1).alloc _).trans' (ch_grown' (S := fun i => v.ownBlock = some i) hgrow (fun k hk _ => hk)) (fun _ h => h.elim) (fun _ _ h => h)
  have hlt : ∀ i, i < w.heap.size → ¬ (v.ownBlock = some i) := fun i hi e => by have := hb0 i e; omega
  refine ⟨hs1.chA k2 (hlt _ l1) (hlt _ l2) (fun hx ad e => hlt _ (l3 hx ad e)), ?_, ?_⟩
  · rw [List.length_append, List.map_append]; exact hown'
  · exact (h.ch.trans hc1).trans' k2 (fun _ h => h) (fun i hi e => absurd e (hlt i hi))

set_option maxRecDepth 100000 in
set_option maxHeartbeats 400000 in
theorem to_none (hb mb : Nat) (n : ByteArray) (v : Int) (w : World) (h3 : w.cell? ⟨hb, 3, none⟩ = some (.map (some mb)))
    (hlk : (Instr.lookup 53 (.map (some mb)) (.string n) true).run Try.prog w = .ok (.tuple #[.int .i64 v, .bool false]) w) :
    Calls Try.prog 22 #[.pointer (some ⟨hb, 0, none⟩), .string n] w fun e w' => e = .returned (.tuple #[.slice none 0 0, .int .i64 8]) ∧ w' = w := by
  go_enter Try.func22, Try.ntmps22
  go_wp2_with (go_at_call 23; refine (made_any hb mb _ h3).mono ?_; rintro e w' ⟨rfl, rfl⟩)
  go_ret2
  exact ⟨rfl, rfl⟩

def ToDown (w : World) (hb mb : Nat) (s : Hist) (A : Option Addr) (c : Nat) (L : List Ent) (clk t : Nat) (v : Value) (wr : World) : Prop :=
  ∃ p, t ≤ p ∧ p ≤ s.pos ∧ ToRel w hb mb s A c L clk p ((s.all.take s.pos).drop p).reverse v wr
def ToUp (w : World) (hb mb : Nat) (s : Hist) (A : Option Addr) (c : Nat) (L : List Ent) (clk t : Nat) (v : Value) (wr : World) : Prop :=
  ∃ p, s.pos ≤ p ∧ p ≤ t ∧ ToRel w hb mb s A c L clk p ((s.all.take p).drop s.pos) v wr
def posOf (w : World) (hb : Nat) : Nat := match w.cell? ⟨hb, 1, none⟩ with | some (.int _ n) => n.toNat | _ => 0
theorem posOf_eq {w : World} {hb mb : Nat} {s : Hist} {A : Option Addr} {c : Nat} {L : List Ent} {clk : Nat} (h : IsH w hb mb s A c L clk) : posOf w hb = s.pos := by
  unfold posOf
  rw [h.c1]
  simp
def ToPost (w : World) (hb mb : Nat) (s : Hist) (A : Option Addr) (c : Nat) (L : List Ent) (clk t : Nat) (e : Ending) (w' : World) : Prop :=
  ∃ A' c', e = .returned (.tuple #[.slice A' (s.between t).length c', .int .i64 0]) ∧ Row w' A' c' (s.between t) ∧ IsH w' hb mb (s.goto t) A c L clk ∧ Ch (SH hb mb) w w'

theorem sh_old {w : World} {hb mb : Nat} {s : Hist} {A : Option Addr} {c : Nat} {L : List Ent} {clk : Nat} (h : IsH w hb mb s A c L clk) : ∀ i, w.heap.size ≤ i → ¬ SH hb mb i := by
  obtain ⟨l1, l2, _⟩ := h.lt
  rintro i hi (rfl | rfl) <;> omega
theorem down_step (s : Hist) (q : Nat) (hq : q < (s.all.take s.pos).length) : ((s.all.take s.pos).drop q).reverse = ((s.all.take s.pos).drop (q + 1)).reverse ++ [s.all.getD q 0] := by
  rw [List.drop_eq_getElem_cons hq, List.reverse_cons, List.getElem_take, List.getD_eq_getElem?_getD]
  rw [List.length_take] at hq
  rw [List.getElem?_eq_getElem (by omega)]
  rfl

theorem to_end {w wr : World} {hb mb : Nat} {s : Hist} {A : Option Addr} {c : Nat} {L : List Ent} {clk p : Nat} {v : Value} (h : ToRel w hb mb s A c L clk p (s.between p) v wr) : ToPost w hb mb s A c L clk p (.returned (.tuple #[v, .int .i64 0])) wr := by
  obtain ⟨A', c', rfl, hr⟩ := Row.of_own h.own
  exact ⟨A', c', rfl, hr, h.hs, h.ch⟩
theorem back_to (hb mb : Nat) (s : Hist) (q : Nat) (x : Int) (w : World) (A : Option Addr) (c : Nat) (L : List Ent) (clk : Nat) (h : IsH w hb mb (s.goto (q + 1)) A c L clk) (hx : x = s.all.getD q 0) :
    Calls Try.prog 20 #[.pointer (some ⟨hb, 0, none⟩)] w fun e w' => e = .returned (.tuple #[.int .i64 x, .int .i64 0]) ∧ IsH w' hb mb (s.goto q) A c L clk ∧ Ch (SH hb mb) w w' := by
  refine (back_any hb mb _ w A c L clk h).mono ?_
  rintro e w' (⟨h0, _⟩ | ⟨_, rfl, hs, hc⟩)
  · exact absurd h0 (Nat.succ_ne_zero q)
  · exact ⟨by rw [hx]; rfl, hs, hc⟩
theorem again_to (hb mb : Nat) (s : Hist) (q : Nat) (x : Int) (w : World) (A : Option Addr) (c : Nat) (L : List Ent) (clk : Nat) (h : IsH w hb mb (s.goto q) A c L clk) (hq : q < s.all.length) (hx : x = s.all.getD q 0) :
    Calls Try.prog 19 #[.pointer (some ⟨hb, 0, none⟩)] w fun e w' => e = .returned (.tuple #[.int .i64 x, .int .i64 0]) ∧ IsH w' hb mb (s.goto (q + 1)) A c L clk ∧ Ch (SH hb mb) w w' := by
  refine (again_any hb mb _ w A c L clk h).mono ?_
  rintro e w' (⟨h0, _⟩ | ⟨_, rfl, hs, hc⟩)
  · exact absurd h0 (Nat.ne_of_lt hq)
  · exact ⟨by rw [hx]; rfl, hs, hc⟩

set_option maxRecDepth 100000 in
set_option maxHeartbeats 1000000 in
theorem to_down (hb mb : Nat) (s : Hist) (n : ByteArray) (t : Nat) (w : World) (A : Option Addr) (c : Nat) (L : List Ent) (clk : Nat) (h : IsH w hb mb s A c L clk) (ht : t ≤ s.pos)
    (hlk : (Instr.lookup 53 (.map (some mb)) (.string n) true).run Try.prog w = .ok (.tuple #[.int .i64 t, .bool true]) w) :
    Calls Try.prog 22 #[.pointer (some ⟨hb, 0, none⟩), .string n] w (ToPost w hb mb s A c L clk t) := by
  have h3 := h.c3
  have HH := Lib.hid h
  have hpos := h.ok.pos
  have hall := h.ok.all
  have hmost := h.ok.most
  obtain ⟨i0, hi, hz0, hz1, hz2⟩ := info_parts info3
  clear h
  go_enter Try.func22, Try.ntmps22
  go_wp2_with (go_at_call 23; refine (made_any hb mb _ h3).mono ?_; rintro e w' ⟨rfl, rfl⟩)
  clear hlk h3
  go_loopw [8] (fun v wr => ToDown w hb mb s A c L clk t v wr) (fun _ wr => posOf wr hb)
  case atStart => exact ⟨s.pos, ht, Nat.le_refl _, HH.out, by simpa using World.ownsRow_nil w w.heap.size 3 1, Ch.refl _ _⟩
  case round =>
    obtain ⟨p, hp1, hp2, hR⟩ := hrel
    have c1 : wr.cell? ⟨hb, 1, none⟩ = some (.int .i64 (p : Int)) := hR.hs.c1
    have hsz : w.heap.size ≤ wr.heap.size := hR.ch.size
    have HR := Lib.hid hR
    have HU := Lib.hid (posOf_eq hR.hs)
    clear hR
    by_cases hlt : t < p
    · obtain ⟨q, rfl⟩ : ∃ q, p = q + 1 := ⟨p - 1, by omega⟩
      have hx := down_step s q (by rw [List.length_take]; omega)
      obtain ⟨xs, hxs⟩ : ∃ xs, xs = ((s.all.take s.pos).drop (q + 1)).reverse := ⟨_, rfl⟩
      obtain ⟨x, hxx⟩ : ∃ x, x = s.all.getD q 0 := ⟨_, rfl⟩
      rw [← hxs, ← hxx] at hx
      rw [← hxs] at HR
      have hlen : xs.length ≤ 256 := by rw [hxs]; simp; omega
      have HX := Lib.hid hx
      have HXX := Lib.hid hxx
      clear hx hxs hxx
      go_wp2_with (first
        | (go_at_call 20; refine (back_to hb mb s q x _ A c L clk HR.out.hs HXX.out).mono ?_; rintro e w1 ⟨rfl, hs1, hc1⟩; have hsz1 : w.heap.size ≤ w1.heap.size := Nat.le_trans hsz hc1.size; have HS1 := Lib.hid hs1; have HC1 := Lib.hid hc1; clear hs1 hc1)
        | (at_builtin; refine wpList_append_own _ rfl _ _ 26 rfl w.heap.size 3 i0 (.int .i64 0) 1 8 Try.underlying26 hi hz0 hz1 hz2 rfl (by decide) _ _ _ rfl ((own_ch HR.out.own HC1.out (sh_old HH.out)).alloc _) ⟨w1.heap.size, 0, none⟩ 1 1 [.int .i64 x] rfl rfl (cell_one_new _ _ _) (by simp [Value.oneCell']) (by unfold maxLen; omega) (by omega) (by simp; omega) ?_; intro v' w2 hown' hgrow _; have HO := Lib.hid hown'; have HG := Lib.hid hgrow; clear hown' hgrow))
      go_roundw
      case rel =>
        refine ⟨q, by omega, by omega, ?_⟩
        rw [HX.out]
        exact to_step HH.out HR.out HS1.out HC1.out HO.out HG.out
      case measure =>
        have S := to_step HH.out HR.out HS1.out HC1.out HO.out HG.out
        rw [HU.out, posOf_eq S.hs]
        exact Nat.lt_succ_self q
    · obtain rfl : p = t := by omega
      have HB := Lib.hid (show ((s.all.take s.pos).drop p).reverse = s.between p by unfold Hist.between; rw [if_pos hp2])
      go_wp2
      go_loopw [8] (fun v wr' => v = u8 ∧ wr' = wr) (fun _ _ => 0)
      case atStart => exact ⟨rfl, rfl⟩
      case round =>
        obtain ⟨rfl, rfl⟩ := hrel
        go_wp2
        go_ret2
        exact to_end (HB.out ▸ HR.out)
theorem up_step (s : Hist) (p q : Nat) (hp : p ≤ q) (hq : q < s.all.length) : (s.all.take (q + 1)).drop p = (s.all.take q).drop p ++ [s.all.getD q 0] := by
  rw [getD_take_last hq, List.drop_append]
  have : p - (s.all.take q).length = 0 := by rw [List.length_take]; omega
  rw [this]
  rfl

set_option maxRecDepth 100000 in
set_option maxHeartbeats 1000000 in
theorem to_up (hb mb : Nat) (s : Hist) (n : ByteArray) (t : Nat) (w : World) (A : Option Addr) (c : Nat) (L : List Ent) (clk : Nat) (h : IsH w hb mb s A c L clk) (ht : s.pos < t) (ht2 : t ≤ s.all.length)
    (hlk : (Instr.lookup 53 (.map (some mb)) (.string n) true).run Try.prog w = .ok (.tuple #[.int .i64 t, .bool true]) w) :
    Calls Try.prog 22 #[.pointer (some ⟨hb, 0, none⟩), .string n] w (ToPost w hb mb s A c L clk t) := by
  have h3 := h.c3
  have h1 := h.c1
  have HH := Lib.hid h
  have hpos := h.ok.pos
  have hall := h.ok.all
  have hmost := h.ok.most
  obtain ⟨i0, hi, hz0, hz1, hz2⟩ := info_parts info3
  clear h
  go_enter Try.func22, Try.ntmps22
  go_wp2_with (go_at_call 23; refine (made_any hb mb _ h3).mono ?_; rintro e w' ⟨rfl, rfl⟩)
  clear hlk h3
  go_loopw [8] (fun v wr' => v = .slice none 0 0 ∧ w = wr') (fun _ _ => 0)
  case atStart => exact ⟨rfl, rfl⟩
  case round =>
    obtain ⟨rfl, rfl⟩ := hrel
    have hlt : ¬ (t : Int) < (s.pos : Int) := by omega
    go_wp2
    clear h1
    go_loopw [8] (fun v wr' => ToUp w hb mb s A c L clk t v wr') (fun _ wr' => t - posOf wr' hb)
    case atStart => exact ⟨s.pos, Nat.le_refl _, by omega, HH.out, by simpa using World.ownsRow_nil w w.heap.size 3 1, Ch.refl _ _⟩
    case round =>
      obtain ⟨p, hp1, hp2, hR⟩ := hrel
      have c1 : wr.cell? ⟨hb, 1, none⟩ = some (.int .i64 (p : Int)) := hR.hs.c1
      have hsz : w.heap.size ≤ wr.heap.size := hR.ch.size
      have HR := Lib.hid hR
      have HU := Lib.hid (posOf_eq hR.hs)
      clear hR
      by_cases hlt2 : p < t
      · have hx := up_step s s.pos p hp1 (by omega)
        obtain ⟨xs, hxs⟩ : ∃ xs, xs = (s.all.take p).drop s.pos := ⟨_, rfl⟩
        obtain ⟨x, hxx⟩ : ∃ x, x = s.all.getD p 0 := ⟨_, rfl⟩
        rw [← hxs, ← hxx] at hx
        rw [← hxs] at HR
        have hlen : xs.length ≤ 256 := by rw [hxs]; simp; omega
        have HX := Lib.hid hx
        have HXX := Lib.hid hxx
        clear hx hxs hxx
        go_wp2_with (first
          | (go_at_call 19; refine (again_to hb mb s p x _ A c L clk HR.out.hs (by omega) HXX.out).mono ?_; rintro e w1 ⟨rfl, hs1, hc1⟩; have hsz1 : w.heap.size ≤ w1.heap.size := Nat.le_trans hsz hc1.size; have HS1 := Lib.hid hs1; have HC1 := Lib.hid hc1; clear hs1 hc1)
          | (at_builtin; refine wpList_append_own _ rfl _ _ 26 rfl w.heap.size 3 i0 (.int .i64 0) 1 8 Try.underlying26 hi hz0 hz1 hz2 rfl (by decide) _ _ _ rfl ((own_ch HR.out.own HC1.out (sh_old HH.out)).alloc _) ⟨w1.heap.size, 0, none⟩ 1 1 [.int .i64 x] rfl rfl (cell_one_new _ _ _) (by simp [Value.oneCell']) (by unfold maxLen; omega) (by omega) (by simp; omega) ?_; intro v' w2 hown' hgrow _; have HO := Lib.hid hown'; have HG := Lib.hid hgrow; clear hown' hgrow))
        go_roundw
        case rel =>
          refine ⟨p + 1, by omega, by omega, ?_⟩
          rw [HX.out]
          exact to_step HH.out HR.out HS1.out HC1.out HO.out HG.out
        case measure =>
          have S := to_step HH.out HR.out HS1.out HC1.out HO.out HG.out
          rw [HU.out, posOf_eq S.hs]
          show t - (p + 1) < t - p
          omega
      · obtain rfl : p = t := by omega
        have HB := Lib.hid (show (s.all.take p).drop s.pos = s.between p by unfold Hist.between; rw [if_neg (by omega)])
        go_wp2
        go_ret2
        exact to_end (HB.out ▸ HR.out)

def toE (s : Hist) (n : ByteArray) : Int := if (getM s.marks n).isSome then 0 else 8
def toP (s : Hist) (n : ByteArray) : Hist := match getM s.marks n with | some t => s.goto t.toNat | none => s
def toL (s : Hist) (n : ByteArray) : List Int := match getM s.marks n with | some t => s.between t.toNat | none => []
theorem to_any (hb mb : Nat) (s : Hist) (n : ByteArray) (w : World) (h : Hs w hb mb s) (hw : n.size ≤ maxLen) :
    Calls Try.prog 22 #[.pointer (some ⟨hb, 0, none⟩), .string n] w fun e w' => ∃ A' c', e = .returned (.tuple #[.slice A' (toL s n).length c', .int .i64 (toE s n)]) ∧ Row w' A' c' (toL s n) ∧ Hs w' hb mb (toP s n) ∧ Ch (SH hb mb) w w' := by
  have hH := h
  obtain ⟨A, c, L, clk, h⟩ := h
  have hlk := h.map.look hw
  rw [h.get] at hlk
  unfold toE toP toL
  cases e : getM s.marks n with
  | none =>
    rw [e] at hlk
    refine (to_none hb mb n _ w h.c3 hlk).mono ?_
    rintro e w' ⟨rfl, rfl⟩
    exact ⟨none, 0, rfl, Row.nil _, hH, Ch.refl _ _⟩
  | some t =>
    rw [e] at hlk
    have hm := h.ok.marks _ (getM_mem e)
    simp only at hm
    obtain ⟨k, rfl⟩ := Int.eq_ofNat_of_zero_le hm.1
    have fin : ∀ e w', ToPost w hb mb s A c L clk k e w' → ∃ A' c', e = .returned (.tuple #[.slice A' (s.between (Int.toNat k)).length c', .int .i64 0]) ∧ Row w' A' c' (s.between (Int.toNat k)) ∧ Hs w' hb mb (s.goto (Int.toNat k)) ∧ Ch (SH hb mb) w w' := by
      rintro e w' ⟨A', c', he, hr, hs, hc⟩
      exact ⟨A', c', he, hr, ⟨_, _, _, _, hs⟩, hc⟩
    by_cases hk : k ≤ s.pos
    · exact (to_down hb mb s n k w A c L clk h hk hlk).mono fin
    · exact (to_up hb mb s n k w A c L clk h (by omega) (by omega) hlk).mono fin
end Go.Proofs.Ytedpjfanfhhfdaa
