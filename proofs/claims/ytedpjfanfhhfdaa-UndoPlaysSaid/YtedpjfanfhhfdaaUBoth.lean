/- The walks of SameTexts (two lists that are one) and UndoBoth. -/
import Derived.Test.YtedpjfanfhhfdaaUMarks
import Derived.Test.YtedpjfanfhhfdaaUBound
namespace Go.Proofs.Ytedpjfanfhhfdaa
open Go.ChangeMaps Go.MapKept Go.WideShapes Go.RowKit Hist

theorem RowS.at_ {w : World} {A : Option Addr} {c : Nat} {xs : List ByteArray} (h : RowS w A c xs) {i : Nat} (hi : i < xs.length) : ∃ b off, A = some ⟨b, off, none⟩ ∧ w.cell? ⟨b, off + i, none⟩ = some (.string (xs.getD i default)) := by
  obtain ⟨b, off, e, hc⟩ := h.2 (by intro e; subst e; simp at hi)
  exact ⟨b, off, e, hc i hi⟩

set_option maxHeartbeats 400000 in
theorem sameT_true (A B : Option Addr) (c d : Nat) (xs : List ByteArray) (w : World) (hA : RowS w A c xs) (hB : RowS w B d xs) (hbig : xs.length ≤ 1000000) :
    Calls Try.prog 16 #[.slice A xs.length c, .slice B xs.length d] w fun e w' => e = .returned (.bool true) ∧ ∃ n, w' = w.drewN n := by
  have HA := Lib.hid hA
  have HB := Lib.hid hB
  obtain ⟨n, hn⟩ : ∃ n, n = xs.length := ⟨_, rfl⟩
  rw [← hn]
  rw [← hn] at hbig
  have HN := Lib.hid hn
  clear hA hB hn
  go_enter Try.func16, Try.ntmps16
  go_wp2
  go_loopw [5] (fun i wr => ∃ k m : Nat, k ≤ n ∧ i = .int .i64 k ∧ wr = w.drewN m) (fun i _ => n - (intOf i).toNat)
  case atStart => exact ⟨0, 0, Nat.zero_le _, rfl, rfl⟩
  case round =>
    obtain ⟨k, m, hk, rfl, rfl⟩ := hrel
    by_cases hlt : k < n
    · obtain ⟨b1, o1, rfl, e1⟩ := HA.out.at_ (i := k) (by rw [← HN.out]; exact hlt)
      obtain ⟨b2, o2, rfl, e2⟩ := HB.out.at_ (i := k) (by rw [← HN.out]; exact hlt)
      have hl : (k : Int) < (n : Int) := by omega
      have hl0 : (0 : Int) ≤ (k : Int) := by omega
      obtain ⟨x, hx⟩ : ∃ x, x = xs.getD k default := ⟨_, rfl⟩
      rw [← hx] at e1 e2
      clear hx
      go_wp2
      go_quiet (fail)
      go_wp2
      go_roundw
      case rel => exact ⟨k + 1, _, by omega, by go_num, rfl⟩
      case measure => simp [intOf]; omega
    · go_wp2
      go_ret
      exact ⟨rfl, m, rfl⟩

theorem again_back {s : Hist} (hp : s.pos ≠ s.all.length) : s.againS.backS = s ∧ s.againE = 0 ∧ s.againS.backE = 0 ∧ s.againS.backV = s.againV := by
  unfold Hist.againS Hist.againE Hist.againV
  rw [if_neg hp, if_neg hp, if_neg hp]
  unfold Hist.backS Hist.backE Hist.backV
  have h0 : ¬ s.again.pos = 0 := by show ¬ s.pos + 1 = 0; omega
  rw [if_neg h0, if_neg h0, if_neg h0]
  refine ⟨rfl, rfl, rfl, rfl⟩
theorem back_again {s : Hist} (h : s.Ok) (hp : s.pos ≠ 0) : s.backS.againS = s ∧ s.backE = 0 ∧ s.backS.againE = 0 ∧ s.backS.againV = s.backV := by
  unfold Hist.backS Hist.backE Hist.backV
  rw [if_neg hp, if_neg hp, if_neg hp]
  unfold Hist.againS Hist.againE Hist.againV
  have h1 := h.pos
  have h0 : ¬ s.back.pos = s.back.all.length := by show ¬ s.pos - 1 = s.all.length; omega
  rw [if_neg h0, if_neg h0, if_neg h0]
  refine ⟨?_, rfl, rfl, rfl⟩
  show (⟨s.most, s.pos - 1 + 1, s.all, s.marks⟩ : Hist) = s
  rw [Nat.sub_add_cancel (by omega)]

/-- three lists that were read -/
structure Three (w : World) (hb mb : Nat) (A1 : Option Addr) (c1 : Nat) (xs : List Int) (A2 : Option Addr) (c2 : Nat) (ys : List Int) (A3 : Option Addr) (c3 : Nat) (ns : List ByteArray) : Prop where
  one : Row w A1 c1 xs
  two : Row w A2 c2 ys
  three : RowS w A3 c3 ns
  far : ∀ ad, A3 = some ad → ¬ SH hb mb ad.block
section
variable {w w' : World} {hb mb : Nat} {s : Hist} {A1 A2 A3 : Option Addr} {c1 c2 c3 : Nat} {xs ys : List Int} {ns : List ByteArray}
theorem Three.ch0 (h : Three w hb mb A1 c1 xs A2 c2 ys A3 c3 ns) (k : Ch (fun _ => False) w w') : Three w' hb mb A1 c1 xs A2 c2 ys A3 c3 ns := ⟨h.one.ch0 k, h.two.ch0 k, h.three.ch0 k, h.far⟩
theorem Three.sh (h : Three w hb mb A1 c1 xs A2 c2 ys A3 c3 ns) (hs : Hs w hb mb s) (k : Ch (SH hb mb) w w') : Three w' hb mb A1 c1 xs A2 c2 ys A3 c3 ns := ⟨h.one.sh hs k, h.two.sh hs k, h.three.ch k h.far, h.far⟩
end

theorem Named.len {s : Hist} {ns : List ByteArray} (h : Named s ns) : ns.length = s.marks.length := by rw [h.perm.length_eq, List.length_map]

set_option maxRecDepth 100000 in
set_option maxHeartbeats 4000000 in
theorem both_walk (most : Int) (A : Option Addr) (c : Nat) (l : List Act1) (again : Bool) (w : World) (hl : Acts w A l) (hbig : l.length ≤ 9223372036854775807) (hsm : ∀ a ∈ l, a.name.size ≤ maxLen) :
    Calls Try.prog 5 #[.int .i64 most, .slice A l.length c, .bool again] w fun e w' => e = .returned (.bool true) ∧ Ch (fun _ => False) w w' := by
  obtain ⟨s, hs⟩ : ∃ s, s = l.foldl Hist.act (Hist.new most) := ⟨_, rfl⟩
  have hd := done_law most A c l w hl hbig hsm
  rw [← hs] at hd
  have HD := Lib.hid hd
  obtain ⟨n, hn⟩ : ∃ n, n = l.length := ⟨_, rfl⟩
  rw [← hn] at HD hbig ⊢
  clear hl hsm hs hd hn
  by_cases hbn : 300 < n
  · go_enter Try.func5, Try.ntmps5
    go_wp2_with (first
      | (go_at_call 7; refine HD.out.mono ?_; rintro e w1 ⟨hb, mb, rfl, h1⟩; have H1 := Lib.hid h1; clear h1)
      | (go_at_call 8; refine (lives_true _).mono ?_; rintro e w2 ⟨rfl, h2⟩; have H2 := Lib.hid h2; clear h2))
    go_ret
    exact ⟨rfl, H1.out.2.1.trans H2.out⟩
  · go_enter Try.func5, Try.ntmps5
    go_wp2_with (go_at_call 7; refine HD.out.mono ?_; rintro e w1 ⟨hb, mb, rfl, h1⟩; have H1 := Lib.hid h1; clear h1)
    have hok : s.Ok := by obtain ⟨_, _, _, _, h⟩ := H1.out.1; exact h.ok
    obtain ⟨p, hpe⟩ : ∃ p, p = s.pos := ⟨_, rfl⟩
    obtain ⟨q, hqe⟩ : ∃ q, q = s.all.length - s.pos := ⟨_, rfl⟩
    have HP := Lib.hid (show p = s.pos ∧ q = s.all.length - s.pos ∧ s.Ok from ⟨hpe, hqe, hok⟩)
    clear hok hpe hqe
    go_wp2_with fail
    refine (done_any hb mb s w1 H1.out.1).mono ?_
    rintro e w2 ⟨A1, c1, he, hr, hc⟩
    obtain rfl : e = .returned (.slice A1 p c1) := by rw [he, HP.out.1]
    have H2 := Lib.hid (show Hs w2 hb mb s ∧ Ch (SH hb mb) w1 w2 ∧ Row w2 A1 c1 (s.all.take s.pos) from ⟨H1.out.1.ch0 hc, hc.mono (fun _ _ h => h.elim), hr⟩)
    clear he hr hc
    go_wp2_with fail
    refine (undone_any hb mb s w2 H2.out.1).mono ?_
    rintro e w3 ⟨A2, c2, he, hr, hc⟩
    obtain rfl : e = .returned (.slice A2 q c2) := by rw [he, HP.out.2.1]
    have H3 := Lib.hid (show Hs w3 hb mb s ∧ Ch (SH hb mb) w1 w3 ∧ Row w3 A1 c1 (s.all.take s.pos) ∧ Row w3 A2 c2 (s.all.drop s.pos) from ⟨H2.out.1.ch0 hc, H2.out.2.1.trans (hc.mono (fun _ _ h => h.elim)), H2.out.2.2.ch0 hc, hr⟩)
    clear he hr hc
    go_wp2_with fail
    refine (marks_any hb mb s w3 H3.out.1).mono ?_
    rintro e w4 ⟨A3, c3, ns, he, hr, hA, hN, hc⟩
    obtain ⟨m, hm⟩ : ∃ m, m = ns.length := ⟨_, rfl⟩
    obtain rfl : e = .returned (.slice A3 m c3) := by rw [he, hm]
    have H4 := Lib.hid (show Hs w4 hb mb s ∧ Ch (SH hb mb) w1 w4 ∧ Three w4 hb mb A1 c1 (s.all.take s.pos) A2 c2 (s.all.drop s.pos) A3 c3 ns from
      ⟨H3.out.1.ch0 hc, H3.out.2.1.trans (hc.mono (fun _ _ h => h.elim)), H3.out.2.2.1.ch0 hc, H3.out.2.2.2.ch0 hc, hr, by
        obtain ⟨_, _, _, _, h⟩ := H3.out.1
        obtain ⟨h1, h2, _⟩ := h.lt
        intro ad e k
        have := hA ad e
        rcases k with k | k <;> omega⟩)
    have HM := Lib.hid (show m = ns.length ∧ Named s ns from ⟨hm, hN⟩)
    clear he hr hA hN hc hm
    have HST := Lib.hid (show ∀ (w5 : World) (t : Hist), Hs w5 hb mb t → Ch (SH hb mb) w4 w5 → (Hs w5 hb mb t ∧ Ch (SH hb mb) w1 w5 ∧ Three w5 hb mb A1 c1 (s.all.take s.pos) A2 c2 (s.all.drop s.pos) A3 c3 ns) from
      fun w5 t h k => ⟨h, H4.out.2.1.trans k, H4.out.2.2.sh H4.out.1 k⟩)
    have hlp := HP.out.2.2.pos
    have hla := HP.out.2.2.all
    have hlm := HP.out.2.2.most
    have l1 : (s.all.take s.pos).length = p := by rw [List.length_take, HP.out.1]; omega
    have l2 : (s.all.drop s.pos).length = q := by rw [List.length_drop, HP.out.2.1]
    have l3 : ns.length ≤ 16 := by rw [HM.out.2.len]; exact HP.out.2.2.count
    have HL1 := Lib.hid (show ∀ (A B : Option Addr) (c d : Nat) (w : World), Row w A c (s.all.take s.pos) → Row w B d (s.all.take s.pos) → Calls Try.prog 15 #[.slice A p c, .slice B p d] w fun e w' => e = .returned (.bool true) ∧ Ch (fun _ => False) w w' from
      fun A B c d w h k => by rw [← l1]; exact same_ch A B c d _ w h k (by rw [List.length_take]; omega))
    have HL2 := Lib.hid (show ∀ (A B : Option Addr) (c d : Nat) (w : World), Row w A c (s.all.drop s.pos) → Row w B d (s.all.drop s.pos) → Calls Try.prog 15 #[.slice A q c, .slice B q d] w fun e w' => e = .returned (.bool true) ∧ Ch (fun _ => False) w w' from
      fun A B c d w h k => by rw [← l2]; exact same_ch A B c d _ w h k (by rw [List.length_drop]; omega))
    have HL3 := Lib.hid (show ∀ (A B : Option Addr) (c d : Nat) (w : World), RowS w A c ns → RowS w B d ns → Calls Try.prog 16 #[.slice A m c, .slice B m d] w fun e w' => e = .returned (.bool true) ∧ Ch (fun _ => False) w w' from
      fun A B c d w h k => by
        rw [HM.out.1]
        exact (sameT_true A B c d _ w h k (by omega)).mono (by rintro e w' ⟨he, n, rfl⟩; exact ⟨he, (Ch.refl _ _).drewN n⟩))
    clear hlp hla hlm l1 l2 l3
    by_cases hend : (if again = true then s.pos = s.all.length else s.pos = 0)
    · cases again
      · rw [if_neg (by decide)] at hend
        have hb4 := back_all hb mb s w4 H4.out.1
        have e1 : s.backS = s := if_pos hend
        have e2 : s.backE = 12 := if_pos hend
        obtain ⟨x, hx⟩ : ∃ x, x = s.backV := ⟨_, rfl⟩
        rw [e1, e2, ← hx] at hb4
        clear hend e1 e2 hx
        go_wp2_with fail
        refine hb4.mono ?_
        clear hb4
        rintro e wt ⟨rfl, hs, hc⟩
        have HT := Lib.hid (HST.out wt s hs hc)
        clear hs hc
        go_wp2_with fail
        refine (done_any hb mb s wt HT.out.1).mono ?_
        rintro e u1 ⟨B1, d1, he, hr, hc⟩
        obtain rfl : e = .returned (.slice B1 p d1) := by rw [he, HP.out.1]
        have U1 := Lib.hid (show Hs u1 hb mb s ∧ Ch (SH hb mb) w1 u1 ∧ Three u1 hb mb A1 c1 (s.all.take s.pos) A2 c2 (s.all.drop s.pos) A3 c3 ns ∧ Row u1 B1 d1 (s.all.take s.pos) from
          ⟨HT.out.1.ch0 hc, HT.out.2.1.trans (hc.mono (fun _ _ h => h.elim)), HT.out.2.2.ch0 hc, hr⟩)
        clear he hr hc
        have hq := HL1.out B1 A1 d1 c1 u1 U1.out.2.2.2 U1.out.2.2.1.one
        have HQ := Lib.hid hq
        clear hq
        go_wp2_with fail
        refine HQ.out.mono ?_
        rintro e u2 ⟨rfl, hc⟩
        have U2 := Lib.hid (show Hs u2 hb mb s ∧ Ch (SH hb mb) w1 u2 ∧ Three u2 hb mb A1 c1 (s.all.take s.pos) A2 c2 (s.all.drop s.pos) A3 c3 ns from
          ⟨U1.out.1.ch0 hc, U1.out.2.1.trans (hc.mono (fun _ _ h => h.elim)), U1.out.2.2.1.ch0 hc⟩)
        clear hc HQ
        go_wp2_with fail
        refine (undone_any hb mb s u2 U2.out.1).mono ?_
        rintro e u3 ⟨B2, d2, he, hr, hc⟩
        obtain rfl : e = .returned (.slice B2 q d2) := by rw [he, HP.out.2.1]
        have U3 := Lib.hid (show Hs u3 hb mb s ∧ Ch (SH hb mb) w1 u3 ∧ Three u3 hb mb A1 c1 (s.all.take s.pos) A2 c2 (s.all.drop s.pos) A3 c3 ns ∧ Row u3 B2 d2 (s.all.drop s.pos) from
          ⟨U2.out.1.ch0 hc, U2.out.2.1.trans (hc.mono (fun _ _ h => h.elim)), U2.out.2.2.ch0 hc, hr⟩)
        clear he hr hc
        have hq := HL2.out B2 A2 d2 c2 u3 U3.out.2.2.2 U3.out.2.2.1.two
        have HQ := Lib.hid hq
        clear hq
        go_wp2_with fail
        refine HQ.out.mono ?_
        rintro e u4 ⟨rfl, hc⟩
        have U4 := Lib.hid (show Hs u4 hb mb s ∧ Ch (SH hb mb) w1 u4 ∧ Three u4 hb mb A1 c1 (s.all.take s.pos) A2 c2 (s.all.drop s.pos) A3 c3 ns from
          ⟨U3.out.1.ch0 hc, U3.out.2.1.trans (hc.mono (fun _ _ h => h.elim)), U3.out.2.2.1.ch0 hc⟩)
        clear hc HQ
        go_wp2_with fail
        refine (marks_any hb mb s u4 U4.out.1).mono ?_
        rintro e u5 ⟨B3, d3, ns', he, hr, hA, hN, hc⟩
        obtain rfl : ns' = ns := hN.unique HM.out.2
        obtain rfl : e = .returned (.slice B3 m d3) := by rw [he, HM.out.1]
        have hq := HL3.out B3 A3 d3 c3 u5 hr (U4.out.2.2.ch0 hc).three
        have U5 := Lib.hid (show Hs u5 hb mb s ∧ Ch (SH hb mb) w1 u5 from ⟨U4.out.1.ch0 hc, U4.out.2.1.trans (hc.mono (fun _ _ h => h.elim))⟩)
        have HQ := Lib.hid hq
        clear he hr hA hN hc hq
        go_wp2_with fail
        refine HQ.out.mono ?_
        rintro e u6 ⟨rfl, hc⟩
        have U6 := Lib.hid (U5.out.2.trans (hc.mono (fun _ _ h => h.elim) : Ch (SH hb mb) u5 u6))
        clear hc HQ
        go_wp2_with (go_at_call 8; refine (lives_true _).mono ?_; rintro e u7 ⟨rfl, h2⟩; have U7 := Lib.hid h2; clear h2)
        go_ret
        exact ⟨rfl, H1.out.sh (U6.out.trans (U7.out.mono (fun _ _ h => h.elim)))⟩
      · rw [if_pos rfl] at hend
        have hb4 := again_all hb mb s w4 H4.out.1
        have e1 : s.againS = s := if_pos hend
        have e2 : s.againE = 12 := if_pos hend
        obtain ⟨x, hx⟩ : ∃ x, x = s.againV := ⟨_, rfl⟩
        rw [e1, e2, ← hx] at hb4
        clear hend e1 e2 hx
        go_wp2_with fail
        refine hb4.mono ?_
        clear hb4
        rintro e wt ⟨rfl, hs, hc⟩
        have HT := Lib.hid (HST.out wt s hs hc)
        clear hs hc
        go_wp2_with fail
        refine (done_any hb mb s wt HT.out.1).mono ?_
        rintro e u1 ⟨B1, d1, he, hr, hc⟩
        obtain rfl : e = .returned (.slice B1 p d1) := by rw [he, HP.out.1]
        have U1 := Lib.hid (show Hs u1 hb mb s ∧ Ch (SH hb mb) w1 u1 ∧ Three u1 hb mb A1 c1 (s.all.take s.pos) A2 c2 (s.all.drop s.pos) A3 c3 ns ∧ Row u1 B1 d1 (s.all.take s.pos) from
          ⟨HT.out.1.ch0 hc, HT.out.2.1.trans (hc.mono (fun _ _ h => h.elim)), HT.out.2.2.ch0 hc, hr⟩)
        clear he hr hc
        have hq := HL1.out B1 A1 d1 c1 u1 U1.out.2.2.2 U1.out.2.2.1.one
        have HQ := Lib.hid hq
        clear hq
        go_wp2_with fail
        refine HQ.out.mono ?_
        rintro e u2 ⟨rfl, hc⟩
        have U2 := Lib.hid (show Hs u2 hb mb s ∧ Ch (SH hb mb) w1 u2 ∧ Three u2 hb mb A1 c1 (s.all.take s.pos) A2 c2 (s.all.drop s.pos) A3 c3 ns from
          ⟨U1.out.1.ch0 hc, U1.out.2.1.trans (hc.mono (fun _ _ h => h.elim)), U1.out.2.2.1.ch0 hc⟩)
        clear hc HQ
        go_wp2_with fail
        refine (undone_any hb mb s u2 U2.out.1).mono ?_
        rintro e u3 ⟨B2, d2, he, hr, hc⟩
        obtain rfl : e = .returned (.slice B2 q d2) := by rw [he, HP.out.2.1]
        have U3 := Lib.hid (show Hs u3 hb mb s ∧ Ch (SH hb mb) w1 u3 ∧ Three u3 hb mb A1 c1 (s.all.take s.pos) A2 c2 (s.all.drop s.pos) A3 c3 ns ∧ Row u3 B2 d2 (s.all.drop s.pos) from
          ⟨U2.out.1.ch0 hc, U2.out.2.1.trans (hc.mono (fun _ _ h => h.elim)), U2.out.2.2.ch0 hc, hr⟩)
        clear he hr hc
        have hq := HL2.out B2 A2 d2 c2 u3 U3.out.2.2.2 U3.out.2.2.1.two
        have HQ := Lib.hid hq
        clear hq
        go_wp2_with fail
        refine HQ.out.mono ?_
        rintro e u4 ⟨rfl, hc⟩
        have U4 := Lib.hid (show Hs u4 hb mb s ∧ Ch (SH hb mb) w1 u4 ∧ Three u4 hb mb A1 c1 (s.all.take s.pos) A2 c2 (s.all.drop s.pos) A3 c3 ns from
          ⟨U3.out.1.ch0 hc, U3.out.2.1.trans (hc.mono (fun _ _ h => h.elim)), U3.out.2.2.1.ch0 hc⟩)
        clear hc HQ
        go_wp2_with fail
        refine (marks_any hb mb s u4 U4.out.1).mono ?_
        rintro e u5 ⟨B3, d3, ns', he, hr, hA, hN, hc⟩
        obtain rfl : ns' = ns := hN.unique HM.out.2
        obtain rfl : e = .returned (.slice B3 m d3) := by rw [he, HM.out.1]
        have hq := HL3.out B3 A3 d3 c3 u5 hr (U4.out.2.2.ch0 hc).three
        have U5 := Lib.hid (show Hs u5 hb mb s ∧ Ch (SH hb mb) w1 u5 from ⟨U4.out.1.ch0 hc, U4.out.2.1.trans (hc.mono (fun _ _ h => h.elim))⟩)
        have HQ := Lib.hid hq
        clear he hr hA hN hc hq
        go_wp2_with fail
        refine HQ.out.mono ?_
        rintro e u6 ⟨rfl, hc⟩
        have U6 := Lib.hid (U5.out.2.trans (hc.mono (fun _ _ h => h.elim) : Ch (SH hb mb) u5 u6))
        clear hc HQ
        go_wp2_with (go_at_call 8; refine (lives_true _).mono ?_; rintro e u7 ⟨rfl, h2⟩; have U7 := Lib.hid h2; clear h2)
        go_ret
        exact ⟨rfl, H1.out.sh (U6.out.trans (U7.out.mono (fun _ _ h => h.elim)))⟩
    · cases again
      · rw [if_neg (by decide)] at hend
        obtain ⟨e1, e2, e3, e4⟩ := back_again HP.out.2.2 hend
        have hb4 := back_all hb mb s w4 H4.out.1
        obtain ⟨x, hx⟩ : ∃ x, x = s.backV := ⟨_, rfl⟩
        rw [e2, ← hx] at hb4
        go_wp2_with fail
        refine hb4.mono ?_
        clear hb4
        rintro e w5 ⟨rfl, hs, hc⟩
        have hb5 := again_all hb mb s.backS w5 hs
        rw [e1, e3, e4, ← hx] at hb5
        have HC5 := Lib.hid hc
        clear hend e1 e2 e3 e4 hx hs hc
        go_wp2_with fail
        refine hb5.mono ?_
        clear hb5
        rintro e wt ⟨rfl, hs, hc⟩
        have HT := Lib.hid (HST.out wt s hs (HC5.out.trans hc))
        clear hs hc
        go_wp2_with fail
        refine (done_any hb mb s wt HT.out.1).mono ?_
        rintro e u1 ⟨B1, d1, he, hr, hc⟩
        obtain rfl : e = .returned (.slice B1 p d1) := by rw [he, HP.out.1]
        have U1 := Lib.hid (show Hs u1 hb mb s ∧ Ch (SH hb mb) w1 u1 ∧ Three u1 hb mb A1 c1 (s.all.take s.pos) A2 c2 (s.all.drop s.pos) A3 c3 ns ∧ Row u1 B1 d1 (s.all.take s.pos) from
          ⟨HT.out.1.ch0 hc, HT.out.2.1.trans (hc.mono (fun _ _ h => h.elim)), HT.out.2.2.ch0 hc, hr⟩)
        clear he hr hc
        have hq := HL1.out B1 A1 d1 c1 u1 U1.out.2.2.2 U1.out.2.2.1.one
        have HQ := Lib.hid hq
        clear hq
        go_wp2_with fail
        refine HQ.out.mono ?_
        rintro e u2 ⟨rfl, hc⟩
        have U2 := Lib.hid (show Hs u2 hb mb s ∧ Ch (SH hb mb) w1 u2 ∧ Three u2 hb mb A1 c1 (s.all.take s.pos) A2 c2 (s.all.drop s.pos) A3 c3 ns from
          ⟨U1.out.1.ch0 hc, U1.out.2.1.trans (hc.mono (fun _ _ h => h.elim)), U1.out.2.2.1.ch0 hc⟩)
        clear hc HQ
        go_wp2_with fail
        refine (undone_any hb mb s u2 U2.out.1).mono ?_
        rintro e u3 ⟨B2, d2, he, hr, hc⟩
        obtain rfl : e = .returned (.slice B2 q d2) := by rw [he, HP.out.2.1]
        have U3 := Lib.hid (show Hs u3 hb mb s ∧ Ch (SH hb mb) w1 u3 ∧ Three u3 hb mb A1 c1 (s.all.take s.pos) A2 c2 (s.all.drop s.pos) A3 c3 ns ∧ Row u3 B2 d2 (s.all.drop s.pos) from
          ⟨U2.out.1.ch0 hc, U2.out.2.1.trans (hc.mono (fun _ _ h => h.elim)), U2.out.2.2.ch0 hc, hr⟩)
        clear he hr hc
        have hq := HL2.out B2 A2 d2 c2 u3 U3.out.2.2.2 U3.out.2.2.1.two
        have HQ := Lib.hid hq
        clear hq
        go_wp2_with fail
        refine HQ.out.mono ?_
        rintro e u4 ⟨rfl, hc⟩
        have U4 := Lib.hid (show Hs u4 hb mb s ∧ Ch (SH hb mb) w1 u4 ∧ Three u4 hb mb A1 c1 (s.all.take s.pos) A2 c2 (s.all.drop s.pos) A3 c3 ns from
          ⟨U3.out.1.ch0 hc, U3.out.2.1.trans (hc.mono (fun _ _ h => h.elim)), U3.out.2.2.1.ch0 hc⟩)
        clear hc HQ
        go_wp2_with fail
        refine (marks_any hb mb s u4 U4.out.1).mono ?_
        rintro e u5 ⟨B3, d3, ns', he, hr, hA, hN, hc⟩
        obtain rfl : ns' = ns := hN.unique HM.out.2
        obtain rfl : e = .returned (.slice B3 m d3) := by rw [he, HM.out.1]
        have hq := HL3.out B3 A3 d3 c3 u5 hr (U4.out.2.2.ch0 hc).three
        have U5 := Lib.hid (show Hs u5 hb mb s ∧ Ch (SH hb mb) w1 u5 from ⟨U4.out.1.ch0 hc, U4.out.2.1.trans (hc.mono (fun _ _ h => h.elim))⟩)
        have HQ := Lib.hid hq
        clear he hr hA hN hc hq
        go_wp2_with fail
        refine HQ.out.mono ?_
        rintro e u6 ⟨rfl, hc⟩
        have U6 := Lib.hid (U5.out.2.trans (hc.mono (fun _ _ h => h.elim) : Ch (SH hb mb) u5 u6))
        clear hc HQ
        go_wp2_with (go_at_call 8; refine (lives_true _).mono ?_; rintro e u7 ⟨rfl, h2⟩; have U7 := Lib.hid h2; clear h2)
        go_ret
        exact ⟨rfl, H1.out.sh (U6.out.trans (U7.out.mono (fun _ _ h => h.elim)))⟩
      · rw [if_pos rfl] at hend
        obtain ⟨e1, e2, e3, e4⟩ := again_back hend
        have hb4 := again_all hb mb s w4 H4.out.1
        obtain ⟨x, hx⟩ : ∃ x, x = s.againV := ⟨_, rfl⟩
        rw [e2, ← hx] at hb4
        go_wp2_with fail
        refine hb4.mono ?_
        clear hb4
        rintro e w5 ⟨rfl, hs, hc⟩
        have hb5 := back_all hb mb s.againS w5 hs
        rw [e1, e3, e4, ← hx] at hb5
        have HC5 := Lib.hid hc
        clear hend e1 e2 e3 e4 hx hs hc
        go_wp2_with fail
        refine hb5.mono ?_
        clear hb5
        rintro e wt ⟨rfl, hs, hc⟩
        have HT := Lib.hid (HST.out wt s hs (HC5.out.trans hc))
        clear hs hc
        go_wp2_with fail
        refine (done_any hb mb s wt HT.out.1).mono ?_
        rintro e u1 ⟨B1, d1, he, hr, hc⟩
        obtain rfl : e = .returned (.slice B1 p d1) := by rw [he, HP.out.1]
        have U1 := Lib.hid (show Hs u1 hb mb s ∧ Ch (SH hb mb) w1 u1 ∧ Three u1 hb mb A1 c1 (s.all.take s.pos) A2 c2 (s.all.drop s.pos) A3 c3 ns ∧ Row u1 B1 d1 (s.all.take s.pos) from
          ⟨HT.out.1.ch0 hc, HT.out.2.1.trans (hc.mono (fun _ _ h => h.elim)), HT.out.2.2.ch0 hc, hr⟩)
        clear he hr hc
        have hq := HL1.out B1 A1 d1 c1 u1 U1.out.2.2.2 U1.out.2.2.1.one
        have HQ := Lib.hid hq
        clear hq
        go_wp2_with fail
        refine HQ.out.mono ?_
        rintro e u2 ⟨rfl, hc⟩
        have U2 := Lib.hid (show Hs u2 hb mb s ∧ Ch (SH hb mb) w1 u2 ∧ Three u2 hb mb A1 c1 (s.all.take s.pos) A2 c2 (s.all.drop s.pos) A3 c3 ns from
          ⟨U1.out.1.ch0 hc, U1.out.2.1.trans (hc.mono (fun _ _ h => h.elim)), U1.out.2.2.1.ch0 hc⟩)
        clear hc HQ
        go_wp2_with fail
        refine (undone_any hb mb s u2 U2.out.1).mono ?_
        rintro e u3 ⟨B2, d2, he, hr, hc⟩
        obtain rfl : e = .returned (.slice B2 q d2) := by rw [he, HP.out.2.1]
        have U3 := Lib.hid (show Hs u3 hb mb s ∧ Ch (SH hb mb) w1 u3 ∧ Three u3 hb mb A1 c1 (s.all.take s.pos) A2 c2 (s.all.drop s.pos) A3 c3 ns ∧ Row u3 B2 d2 (s.all.drop s.pos) from
          ⟨U2.out.1.ch0 hc, U2.out.2.1.trans (hc.mono (fun _ _ h => h.elim)), U2.out.2.2.ch0 hc, hr⟩)
        clear he hr hc
        have hq := HL2.out B2 A2 d2 c2 u3 U3.out.2.2.2 U3.out.2.2.1.two
        have HQ := Lib.hid hq
        clear hq
        go_wp2_with fail
        refine HQ.out.mono ?_
        rintro e u4 ⟨rfl, hc⟩
        have U4 := Lib.hid (show Hs u4 hb mb s ∧ Ch (SH hb mb) w1 u4 ∧ Three u4 hb mb A1 c1 (s.all.take s.pos) A2 c2 (s.all.drop s.pos) A3 c3 ns from
          ⟨U3.out.1.ch0 hc, U3.out.2.1.trans (hc.mono (fun _ _ h => h.elim)), U3.out.2.2.1.ch0 hc⟩)
        clear hc HQ
        go_wp2_with fail
        refine (marks_any hb mb s u4 U4.out.1).mono ?_
        rintro e u5 ⟨B3, d3, ns', he, hr, hA, hN, hc⟩
        obtain rfl : ns' = ns := hN.unique HM.out.2
        obtain rfl : e = .returned (.slice B3 m d3) := by rw [he, HM.out.1]
        have hq := HL3.out B3 A3 d3 c3 u5 hr (U4.out.2.2.ch0 hc).three
        have U5 := Lib.hid (show Hs u5 hb mb s ∧ Ch (SH hb mb) w1 u5 from ⟨U4.out.1.ch0 hc, U4.out.2.1.trans (hc.mono (fun _ _ h => h.elim))⟩)
        have HQ := Lib.hid hq
        clear he hr hA hN hc hq
        go_wp2_with fail
        refine HQ.out.mono ?_
        rintro e u6 ⟨rfl, hc⟩
        have U6 := Lib.hid (U5.out.2.trans (hc.mono (fun _ _ h => h.elim) : Ch (SH hb mb) u5 u6))
        clear hc HQ
        go_wp2_with (go_at_call 8; refine (lives_true _).mono ?_; rintro e u7 ⟨rfl, h2⟩; have U7 := Lib.hid h2; clear h2)
        go_ret
        exact ⟨rfl, H1.out.sh (U6.out.trans (U7.out.mono (fun _ _ h => h.elim)))⟩
end Go.Proofs.Ytedpjfanfhhfdaa
