/- The walk of UndoMarks. -/
import Derived.Test.YtedpjfanfhhfdaaUBoth
namespace Go.Proofs.Ytedpjfanfhhfdaa
open Go.ChangeMaps Go.MapKept Go.WideShapes Go.RowKit Hist

theorem goto_back (s : Hist) (t : Nat) : (s.goto t).backS = s.goto (t - 1) := by
  unfold Hist.backS
  split
  · rename_i h
    have h' : t = 0 := h
    subst h'; rfl
  · rfl
theorem goto_again (s : Hist) (t : Nat) : (s.goto t).againS = s.goto (if t = s.all.length then t else t + 1) := by
  unfold Hist.againS
  split
  · rename_i h
    have h' : t = s.all.length := h
    rw [if_pos h']
  · rename_i h
    have h' : ¬ t = s.all.length := h
    rw [if_neg h']; rfl
theorem to_len (s : Hist) {t p : Nat} (ht : t ≤ s.all.length) (hp : p ≤ s.all.length) : ((s.goto t).between p).length = if p ≤ t then t - p else p - t := by
  unfold Hist.between Hist.goto
  simp only
  split
  · rw [List.length_reverse, List.length_drop, List.length_take]; omega
  · rw [List.length_drop, List.length_take]; omega

theorem mark_get {s : Hist} {n : ByteArray} (h0 : s.markE n = 0) (h : s.Ok) : getM (s.mark n).marks n = some (s.pos : Int) ∧ (s.mark n).pos = s.pos ∧ (s.mark n).all = s.all := by
  have hk := ok_mark h n
  unfold Hist.mark at hk ⊢
  rw [if_pos h0] at hk ⊢
  refine ⟨?_, rfl, rfl⟩
  exact getM_of_mem (p := (n, (s.pos : Int))) hk.nodup (List.mem_append_right _ (List.mem_singleton.2 rfl))
theorem markE_cases (s : Hist) (n : ByteArray) : s.markE n = 2 ∨ s.markE n = 7 ∨ s.markE n = 0 := by
  unfold Hist.markE; split
  · exact .inl rfl
  · split
    · exact .inr (.inl rfl)
    · exact .inr (.inr rfl)

/-- how often a name is among the first k -/
def cnt (ns : List ByteArray) (n : ByteArray) (k : Nat) : Nat := ((ns.take k).filter fun x => decide (x = n)).length
theorem cnt_succ {ns : List ByteArray} (n : ByteArray) {k : Nat} (h : k < ns.length) : cnt ns n (k + 1) = cnt ns n k + if ns.getD k default = n then 1 else 0 := by
  unfold cnt
  rw [List.take_succ_eq_append_getElem h, List.filter_append, List.length_append, List.getD_eq_getElem?_getD, List.getElem?_eq_getElem h]
  by_cases e : ns[k] = n
  · simp [e]
  · simp [e]
theorem cnt_one {ns : List ByteArray} {n : ByteArray} (hn : ns.Nodup) (hm : n ∈ ns) : cnt ns n ns.length = 1 := by
  unfold cnt
  rw [List.take_length]
  induction ns with
  | nil => cases hm
  | cons y r ih =>
    rw [List.nodup_cons] at hn
    rw [List.filter_cons]
    by_cases e : y = n
    · subst e
      have : r.filter (fun x => decide (x = y)) = [] := by
        rw [List.filter_eq_nil_iff]
        intro a ha
        simp only [decide_eq_true_eq]
        rintro rfl
        exact hn.1 ha
      simp [this]
    · rw [if_neg (by simpa using e)]
      exact ih hn.2 ((List.mem_cons.1 hm).resolve_left (fun h => e h.symm))
theorem cnt_le (ns : List ByteArray) (n : ByteArray) (k : Nat) : cnt ns n k ≤ k := by
  unfold cnt
  have := List.length_filter_le (fun x => decide (x = n)) (ns.take k)
  rw [List.length_take] at this
  omega
theorem cnt_named {s : Hist} {n : ByteArray} {ns : List ByteArray} {v : Int} (h : s.Ok) (hN : Named s ns) (hg : getM s.marks n = some v) : cnt ns n ns.length = 1 :=
  cnt_one (hN.perm.nodup_iff.2 h.nodup) (hN.perm.symm.subset (List.mem_map.2 ⟨_, getM_mem hg, rfl⟩))

def MkLoop (w1 : World) (hb mb : Nat) (s : Hist) (A1 : Option Addr) (c1 : Nat) (A2 : Option Addr) (c2 n : Nat) (i : Value) (wr : World) : Prop :=
  ∃ k t : Nat, k ≤ n ∧ i = .int .i64 k ∧ t ≤ s.all.length ∧ Hs wr hb mb (s.goto t) ∧ Ch (SH hb mb) w1 wr ∧ Row wr A1 c1 (s.all.take s.pos) ∧ Row wr A2 c2 (s.all.drop s.pos)
theorem MkLoop.next {w1 wr w' : World} {hb mb : Nat} {s : Hist} {A1 : Option Addr} {c1 : Nat} {A2 : Option Addr} {c2 n k t t' : Nat} (hk : k < n) (ht : t' ≤ s.all.length) (h : Hs wr hb mb (s.goto t)) (hc1 : Ch (SH hb mb) w1 wr)
    (r1 : Row wr A1 c1 (s.all.take s.pos)) (r2 : Row wr A2 c2 (s.all.drop s.pos)) (h' : Hs w' hb mb (s.goto t')) (hc : Ch (SH hb mb) wr w') : MkLoop w1 hb mb s A1 c1 A2 c2 n (.int .i64 ((k : Int) + 1)) w' :=
  ⟨k + 1, t', hk, by go_num, ht, h', hc1.trans hc, r1.sh h hc, r2.sh h hc⟩
def CntLoop (w6 : World) (ns : List ByteArray) (nm : ByteArray) (m : Nat) (cv i : Value) (wr : World) : Prop := ∃ k : Nat, k ≤ m ∧ i = .int .i64 k ∧ cv = .int .i64 (cnt ns nm k : Nat) ∧ wr = w6

set_option maxRecDepth 100000 in
set_option maxHeartbeats 4000000 in
theorem marks_walk (most : Int) (A : Option Addr) (c : Nat) (l : List Act1) (nm : ByteArray) (bk ag : Int) (w : World) (hl : Acts w A l) (hbig : l.length ≤ 9223372036854775807) (hsm : ∀ a ∈ l, a.name.size ≤ maxLen) (hnm : nm.size ≤ maxLen) :
    Calls Try.prog 6 #[.int .i64 most, .slice A l.length c, .string nm, .int .i64 bk, .int .i64 ag] w fun e w' => e = .returned (.bool true) ∧ Ch (fun _ => False) w w' := by
  obtain ⟨s, hs⟩ : ∃ s, s = l.foldl Hist.act (Hist.new most) := ⟨_, rfl⟩
  have hd := done_law most A c l w hl hbig hsm
  rw [← hs] at hd
  have HD := Lib.hid hd
  obtain ⟨n, hn⟩ : ∃ n, n = l.length := ⟨_, rfl⟩
  rw [← hn] at HD hbig ⊢
  clear hl hsm hs hd hn
  by_cases h1 : 300 < n
  · go_enter Try.func6, Try.ntmps6
    go_wp2_with (first
      | (go_at_call 7; refine HD.out.mono ?_; rintro e w1 ⟨hb, mb, rfl, h1⟩; have H1 := Lib.hid h1; clear h1)
      | (go_at_call 8; refine (lives_true _).mono ?_; rintro e w2 ⟨rfl, h2⟩; have H2 := Lib.hid h2; clear h2))
    go_ret
    exact ⟨rfl, H1.out.2.1.trans H2.out⟩
  · skip
    by_cases h2 : bk < 0
    · go_enter Try.func6, Try.ntmps6
      go_wp2_with (first
        | (go_at_call 7; refine HD.out.mono ?_; rintro e w1 ⟨hb, mb, rfl, h1⟩; have H1 := Lib.hid h1; clear h1)
        | (go_at_call 8; refine (lives_true _).mono ?_; rintro e w2 ⟨rfl, h2⟩; have H2 := Lib.hid h2; clear h2))
      go_ret
      exact ⟨rfl, H1.out.2.1.trans H2.out⟩
    · skip
      by_cases h3 : ag < 0
      · go_enter Try.func6, Try.ntmps6
        go_wp2_with (first
          | (go_at_call 7; refine HD.out.mono ?_; rintro e w1 ⟨hb, mb, rfl, h1⟩; have H1 := Lib.hid h1; clear h1)
          | (go_at_call 8; refine (lives_true _).mono ?_; rintro e w2 ⟨rfl, h2⟩; have H2 := Lib.hid h2; clear h2))
        go_ret
        exact ⟨rfl, H1.out.2.1.trans H2.out⟩
      · skip
        by_cases h4 : 300 < bk
        · go_enter Try.func6, Try.ntmps6
          go_wp2_with (first
            | (go_at_call 7; refine HD.out.mono ?_; rintro e w1 ⟨hb, mb, rfl, h1⟩; have H1 := Lib.hid h1; clear h1)
            | (go_at_call 8; refine (lives_true _).mono ?_; rintro e w2 ⟨rfl, h2⟩; have H2 := Lib.hid h2; clear h2))
          go_ret
          exact ⟨rfl, H1.out.2.1.trans H2.out⟩
        · skip
          by_cases h5 : 300 < ag
          · go_enter Try.func6, Try.ntmps6
            go_wp2_with (first
              | (go_at_call 7; refine HD.out.mono ?_; rintro e w1 ⟨hb, mb, rfl, h1⟩; have H1 := Lib.hid h1; clear h1)
              | (go_at_call 8; refine (lives_true _).mono ?_; rintro e w2 ⟨rfl, h2⟩; have H2 := Lib.hid h2; clear h2))
            go_ret
            exact ⟨rfl, H1.out.2.1.trans H2.out⟩
          · skip
            have h2 : 0 ≤ bk := Int.not_lt.1 h2
            have h3 : 0 ≤ ag := Int.not_lt.1 h3
            obtain ⟨nb, rfl⟩ := Int.eq_ofNat_of_zero_le h2
            obtain ⟨na, rfl⟩ := Int.eq_ofNat_of_zero_le h3
            have h4 : nb ≤ 300 := by omega
            have h5 : na ≤ 300 := by omega
            go_enter Try.func6, Try.ntmps6
            go_wp2_with (go_at_call 7; refine HD.out.mono ?_; rintro e w1 ⟨hb, mb, rfl, h1'⟩; have H1 := Lib.hid h1'; clear h1')
            have hm := mark_any hb mb s nm w1 H1.out.1 hnm
            have hok : s.Ok := by obtain ⟨_, _, _, _, h⟩ := H1.out.1; exact h.ok
            rcases markE_cases s nm with hE | hE | hE
            · rw [hE] at hm
              clear hok hE
              refine hm.mono ?_
              clear hm
              rintro e w2 ⟨rfl, hs, hc⟩
              have H2 := Lib.hid hc
              clear hs hc
              go_wp2_with (go_at_call 8; refine (lives_true _).mono ?_; rintro e w9 ⟨rfl, h2'⟩; have H9 := Lib.hid h2'; clear h2')
              go_ret
              exact ⟨rfl, (H1.out.sh H2.out).trans H9.out⟩
            · rw [hE] at hm
              clear hok hE
              refine hm.mono ?_
              clear hm
              rintro e w2 ⟨rfl, hs, hc⟩
              have H2 := Lib.hid hc
              clear hs hc
              go_wp2_with (go_at_call 8; refine (lives_true _).mono ?_; rintro e w9 ⟨rfl, h2'⟩; have H9 := Lib.hid h2'; clear h2')
              go_ret
              exact ⟨rfl, (H1.out.sh H2.out).trans H9.out⟩
            · obtain ⟨g1, g2, g3⟩ := mark_get hE hok
              have hok1 := ok_mark hok nm
              rw [hE] at hm
              obtain ⟨s1, hs1⟩ : ∃ s1, s1 = s.mark nm := ⟨_, rfl⟩
              rw [← hs1] at hm hok1 g1 g2 g3
              rw [← g2] at g1
              obtain ⟨p, hpe⟩ : ∃ p, p = s1.pos := ⟨_, rfl⟩
              obtain ⟨q, hqe⟩ : ∃ q, q = s1.all.length - s1.pos := ⟨_, rfl⟩
              have hp1 := hok1.pos
              have hp2 := hok1.all
              have hp3 := hok1.most
              have hp256 : p ≤ 256 := by omega
              have HP := Lib.hid (show p = s1.pos ∧ q = s1.all.length - s1.pos ∧ s1.Ok ∧ getM s1.marks nm = some (s1.pos : Int) ∧ s1.all.length ≤ 256 ∧ s1.pos ≤ s1.all.length from ⟨hpe, hqe, hok1, g1, by omega, hp1⟩)
              clear hok hE g1 g2 g3 hok1 hs1 hpe hqe hp1 hp2 hp3
              refine hm.mono ?_
              clear hm
              rintro e w2 ⟨rfl, hs, hc⟩
              have H2 := Lib.hid (show Hs w2 hb mb s1 ∧ Ch (SH hb mb) w1 w2 from ⟨hs, hc⟩)
              clear hs hc
              go_wp2_with fail
              refine (done_any hb mb s1 w2 H2.out.1).mono ?_
              rintro e w3 ⟨A1, c1, he, hr, hc⟩
              obtain rfl : e = .returned (.slice A1 p c1) := by rw [he, HP.out.1]
              have H3 := Lib.hid (show Hs w3 hb mb s1 ∧ Ch (SH hb mb) w1 w3 ∧ Row w3 A1 c1 (s1.all.take s1.pos) from ⟨H2.out.1.ch0 hc, H2.out.2.trans (hc.mono (fun _ _ h => h.elim)), hr⟩)
              clear he hr hc
              go_wp2_with fail
              refine (undone_any hb mb s1 w3 H3.out.1).mono ?_
              rintro e w4 ⟨A2, c2, he, hr, hc⟩
              obtain rfl : e = .returned (.slice A2 q c2) := by rw [he, HP.out.2.1]
              have H4 := Lib.hid (show Hs w4 hb mb s1 ∧ Ch (SH hb mb) w1 w4 ∧ Row w4 A1 c1 (s1.all.take s1.pos) ∧ Row w4 A2 c2 (s1.all.drop s1.pos) from ⟨H3.out.1.ch0 hc, H3.out.2.1.trans (hc.mono (fun _ _ h => h.elim)), H3.out.2.2.ch0 hc, hr⟩)
              clear he hr hc
              go_wp2
              go_loopw [15] (fun i wr => MkLoop w1 hb mb s1 A1 c1 A2 c2 nb i wr) (fun i _ => nb - (intOf i).toNat)
              case atStart => exact ⟨0, s1.pos, Nat.zero_le _, rfl, HP.out.2.2.1.pos, H4.out.1, H4.out.2.1, H4.out.2.2⟩
              case round =>
                obtain ⟨k, t, hk, rfl, ht, hR⟩ := hrel
                have HR := Lib.hid hR
                have HT := Lib.hid ht
                clear hR ht
                by_cases hlt : k < nb
                · have hl : (k : Int) < (nb : Int) := by omega
                  have hq := back_all hb mb (s1.goto t) wr HR.out.1
                  rw [goto_back] at hq
                  have HQ := Lib.hid hq
                  clear hq
                  obtain ⟨x, hx⟩ : ∃ x, x = (s1.goto t).backV := ⟨_, rfl⟩
                  obtain ⟨y, hy⟩ : ∃ y, y = (s1.goto t).backE := ⟨_, rfl⟩
                  rw [← hx, ← hy] at HQ
                  clear hx hy
                  go_wp2_with (go_at_call 20; refine HQ.out.mono ?_; rintro e w5 ⟨rfl, hs, hc⟩; have H5 := Lib.hid (show _ ∧ _ from ⟨hs, hc⟩); clear hs hc)
                  go_roundw
                  case rel => exact MkLoop.next hlt (Nat.le_trans (Nat.sub_le _ _) HT.out) HR.out.1 HR.out.2.1 HR.out.2.2.1 HR.out.2.2.2 H5.out.1 H5.out.2
                  case measure => simp [intOf]; omega
                · have hl : ¬ (k : Int) < (nb : Int) := by omega
                  go_wp2
                  go_loopw [16] (fun i wr => MkLoop w1 hb mb s1 A1 c1 A2 c2 na i wr) (fun i _ => na - (intOf i).toNat)
                  case atStart => exact ⟨0, t, Nat.zero_le _, rfl, HT.out, HR.out⟩
                  case round =>
                    clear hk hl hlt
                    obtain ⟨k', t, hk, rfl, ht, hR⟩ := hrel
                    have HR := Lib.hid hR
                    have HT := Lib.hid ht
                    clear hR ht
                    by_cases hlt : k' < na
                    · have hl : (k' : Int) < (na : Int) := by omega
                      have hq := again_all hb mb (s1.goto t) _ HR.out.1
                      rw [goto_again] at hq
                      have ht' : (if t = s1.all.length then t else t + 1) ≤ s1.all.length := by have := HT.out; split <;> omega
                      obtain ⟨t', ht2⟩ : ∃ t', t' = (if t = s1.all.length then t else t + 1) := ⟨_, rfl⟩
                      rw [← ht2] at ht' hq
                      have HT' := Lib.hid ht'
                      have HQ := Lib.hid hq
                      clear hq ht' ht2
                      obtain ⟨x, hx⟩ : ∃ x, x = (s1.goto t).againV := ⟨_, rfl⟩
                      obtain ⟨y, hy⟩ : ∃ y, y = (s1.goto t).againE := ⟨_, rfl⟩
                      rw [← hx, ← hy] at HQ
                      clear hx hy
                      go_wp2_with (go_at_call 19; refine HQ.out.mono ?_; rintro e w5 ⟨rfl, hs, hc⟩; have H5 := Lib.hid (show _ ∧ _ from ⟨hs, hc⟩); clear hs hc)
                      go_roundw
                      case rel => exact MkLoop.next hlt HT'.out HR.out.1 HR.out.2.1 HR.out.2.2.1 HR.out.2.2.2 H5.out.1 H5.out.2
                      case measure => simp [intOf]; omega
                    · have hl : ¬ (k' : Int) < (na : Int) := by omega
                      go_wp2_with fail
                      refine (marks_any hb mb (s1.goto t) _ HR.out.1).mono ?_
                      rintro e w6 ⟨A3, c3, ns, he, hr, hA, hN, hc⟩
                      obtain ⟨m, hm⟩ : ∃ m, m = ns.length := ⟨_, rfl⟩
                      obtain rfl : e = .returned (.slice A3 m c3) := by rw [he, hm]
                      have hm1 : cnt ns nm m = 1 := by rw [hm]; exact cnt_named (s := s1.goto t) (ok_goto HP.out.2.2.1 HT.out) hN HP.out.2.2.2.1
                      have hm16 : m ≤ 16 := by rw [hm, hN.len]; exact HP.out.2.2.1.count
                      have H6 := Lib.hid (show Hs w6 hb mb (s1.goto t) ∧ Ch (SH hb mb) w1 w6 ∧ Row w6 A1 c1 (s1.all.take s1.pos) ∧ Row w6 A2 c2 (s1.all.drop s1.pos) ∧ RowS w6 A3 c3 ns ∧ m = ns.length ∧ cnt ns nm m = 1 from
                        ⟨HR.out.1.ch0 hc, HR.out.2.1.trans (hc.mono (fun _ _ h => h.elim)), HR.out.2.2.1.ch0 hc, HR.out.2.2.2.ch0 hc, hr, hm, hm1⟩)
                      clear he hr hA hN hc hm hm1
                      go_wp2
                      go_loopw [18, 19] (fun cv i wr => CntLoop w6 ns nm m cv i wr) (fun _ i _ => m - (intOf i).toNat)
                      case atStart => exact ⟨0, Nat.zero_le _, rfl, rfl, rfl⟩
                      case round =>
                        clear hk hl hlt HR
                        obtain ⟨j, hj, rfl, rfl, rfl⟩ := hrel
                        by_cases hlt : j < m
                        · have hl : (j : Int) < (m : Int) := by omega
                          have hjn : j < ns.length := by rw [← H6.out.2.2.2.2.2.1]; exact hlt
                          obtain ⟨b3, o3, rfl, e3⟩ := H6.out.2.2.2.2.1.at_ (i := j) hjn
                          have hcs := cnt_succ nm hjn
                          have hcl := cnt_le ns nm j
                          obtain ⟨z, hz⟩ : ∃ z, z = cnt ns nm j := ⟨_, rfl⟩
                          obtain ⟨x, hx⟩ : ∃ x, x = ns.getD j default := ⟨_, rfl⟩
                          rw [← hx] at e3 hcs
                          rw [← hz] at hcs hcl ⊢
                          have HZ := Lib.hid hcs
                          clear hjn hcs hx hz
                          by_cases hxn : x = nm
                          · subst hxn
                            go_wp2
                            go_roundw
                            case rel => exact ⟨j + 1, hlt, by go_num, by rw [HZ.out, if_pos rfl]; go_num, rfl⟩
                            case measure => simp [intOf]; omega
                          · have hxf : (x.toList == nm.toList) = false := by
                              rw [beq_eq_false_iff_ne, ByteArray.toList_eq, ByteArray.toList_eq]
                              intro e
                              exact hxn (ByteArray.ext (Array.toList_inj.1 e))
                            go_wp2
                            go_roundw
                            case rel => exact ⟨j + 1, hlt, by go_num, by rw [HZ.out, if_neg hxn, Nat.add_zero], rfl⟩
                            case measure => simp [intOf]; omega
                        · have hl : ¬ (j : Int) < (m : Int) := by omega
                          obtain rfl : j = m := by omega
                          rw [H6.out.2.2.2.2.2.2]
                          have ht256 : t ≤ 256 := Nat.le_trans HT.out HP.out.2.2.2.2.1
                          have ht1 := HT.out
                          have hp1 := HP.out.2.2.2.2.2
                          have hto := to_any hb mb (s1.goto t) nm
                          have t1 : toE (s1.goto t) nm = 0 := by unfold toE; show (if (getM s1.marks nm).isSome then (0 : Int) else 8) = 0; rw [HP.out.2.2.2.1]; rfl
                          have t2 : toP (s1.goto t) nm = s1 := by
                            have e : toP (s1.goto t) nm = (match getM s1.marks nm with | some v => (s1.goto t).goto v.toNat | none => s1.goto t) := rfl
                            rw [e, HP.out.2.2.2.1]
                            show (⟨s1.most, (s1.pos : Int).toNat, s1.all, s1.marks⟩ : Hist) = s1
                            rw [Int.toNat_natCast]
                          have t3 : toL (s1.goto t) nm = (s1.goto t).between p := by
                            have e : toL (s1.goto t) nm = (match getM s1.marks nm with | some v => (s1.goto t).between v.toNat | none => []) := rfl
                            rw [e, HP.out.2.2.2.1]
                            show (s1.goto t).between (s1.pos : Int).toNat = _
                            rw [Int.toNat_natCast, HP.out.1]
                          have t4 := to_len s1 ht1 (p := p) (by rw [HP.out.1]; exact hp1)
                          obtain ⟨d, hd⟩ : ∃ d, d = ((s1.goto t).between p).length := ⟨_, rfl⟩
                          rw [← hd] at t4
                          rw [t1, t2, t3, ← hd] at hto
                          have rmax : ∀ (w : World) (ats : Array TypeId) (ty : TypeId), (Builtin.max_ ats ty #[.int .i64 ((t : Int) - (p : Int)), .int .i64 ((p : Int) - (t : Int))]).run Try.prog w = .ok (.int .i64 (d : Int)) w := fun w ats ty => by
                            rw [run_max, t4]
                            congr 2
                            split <;> split <;> omega
                          have l1 : (s1.all.take s1.pos).length = p := by rw [List.length_take, HP.out.1]; omega
                          have l2 : (s1.all.drop s1.pos).length = q := by rw [List.length_drop, HP.out.2.1]
                          have hd256 : d ≤ 256 := by rw [t4]; split <;> omega
                          have HTO := Lib.hid hto
                          have hall := HP.out.2.2.2.2.1
                          have HL1 := Lib.hid (show ∀ (A B : Option Addr) (c d : Nat) (w : World), Row w A c (s1.all.take s1.pos) → Row w B d (s1.all.take s1.pos) → Calls Try.prog 15 #[.slice A p c, .slice B p d] w fun e w' => e = .returned (.bool true) ∧ Ch (fun _ => False) w w' from
                            fun A B c d w h k => by rw [← l1]; exact same_ch A B c d _ w h k (by rw [List.length_take]; omega))
                          have HL2 := Lib.hid (show ∀ (A B : Option Addr) (c d : Nat) (w : World), Row w A c (s1.all.drop s1.pos) → Row w B d (s1.all.drop s1.pos) → Calls Try.prog 15 #[.slice A q c, .slice B q d] w fun e w' => e = .returned (.bool true) ∧ Ch (fun _ => False) w w' from
                            fun A B c d w h k => by rw [← l2]; exact same_ch A B c d _ w h k (by rw [List.length_drop]; omega))
                          clear hto t1 t2 t3 t4 l1 l2 hd hall hlt hl hj ht1 hp1
                          go_wp2_with fail
                          refine (done_any hb mb (s1.goto t) _ H6.out.1).mono ?_
                          rintro e w7 ⟨A4, c4, he, hr, hc⟩
                          change e = .returned (.slice A4 t c4) at he
                          subst he
                          have H7 := Lib.hid (show Hs w7 hb mb (s1.goto t) ∧ Ch (SH hb mb) w1 w7 ∧ Row w7 A1 c1 (s1.all.take s1.pos) ∧ Row w7 A2 c2 (s1.all.drop s1.pos) from
                            ⟨H6.out.1.ch0 hc, H6.out.2.1.trans (hc.mono (fun _ _ h => h.elim)), H6.out.2.2.1.ch0 hc, H6.out.2.2.2.1.ch0 hc⟩)
                          clear hr hc
                          go_wp2_with fail
                          refine (HTO.out w7 H7.out.1 hnm).mono ?_
                          rintro e w8 ⟨A5, c5, rfl, hr, hs, hc⟩
                          have H8 := Lib.hid (show Hs w8 hb mb s1 ∧ Ch (SH hb mb) w1 w8 ∧ Row w8 A1 c1 (s1.all.take s1.pos) ∧ Row w8 A2 c2 (s1.all.drop s1.pos) from
                            ⟨hs, H7.out.2.1.trans hc, H7.out.2.2.1.sh H7.out.1 hc, H7.out.2.2.2.sh H7.out.1 hc⟩)
                          clear hr hs hc HTO
                          go_wp2_with fail
                          refine (done_any hb mb s1 _ H8.out.1).mono ?_
                          rintro e u1 ⟨B1, d1, he, hr, hc⟩
                          obtain rfl : e = .returned (.slice B1 p d1) := by rw [he, HP.out.1]
                          have U1 := Lib.hid (show Hs u1 hb mb s1 ∧ Ch (SH hb mb) w1 u1 ∧ Row u1 A1 c1 (s1.all.take s1.pos) ∧ Row u1 A2 c2 (s1.all.drop s1.pos) ∧ Row u1 B1 d1 (s1.all.take s1.pos) from
                            ⟨H8.out.1.ch0 hc, H8.out.2.1.trans (hc.mono (fun _ _ h => h.elim)), H8.out.2.2.1.ch0 hc, H8.out.2.2.2.ch0 hc, hr⟩)
                          clear he hr hc
                          have hq := HL1.out B1 A1 d1 c1 u1 U1.out.2.2.2.2 U1.out.2.2.1
                          have HQ := Lib.hid hq
                          clear hq
                          go_wp2_with fail
                          refine HQ.out.mono ?_
                          rintro e u2 ⟨rfl, hc⟩
                          have U2 := Lib.hid (show Hs u2 hb mb s1 ∧ Ch (SH hb mb) w1 u2 ∧ Row u2 A2 c2 (s1.all.drop s1.pos) from
                            ⟨U1.out.1.ch0 hc, U1.out.2.1.trans (hc.mono (fun _ _ h => h.elim)), U1.out.2.2.2.1.ch0 hc⟩)
                          clear hc HQ
                          go_wp2_with fail
                          refine (undone_any hb mb s1 u2 U2.out.1).mono ?_
                          rintro e u3 ⟨B2, d2, he, hr, hc⟩
                          obtain rfl : e = .returned (.slice B2 q d2) := by rw [he, HP.out.2.1]
                          have hq := HL2.out B2 A2 d2 c2 u3 hr (U2.out.2.2.ch0 hc)
                          have U3 := Lib.hid (show Ch (SH hb mb) w1 u3 from U2.out.2.1.trans (hc.mono (fun _ _ h => h.elim)))
                          have HQ := Lib.hid hq
                          clear he hr hc hq
                          go_wp2_with fail
                          refine HQ.out.mono ?_
                          rintro e u4 ⟨rfl, hc⟩
                          have U4 := Lib.hid (show Ch (SH hb mb) w1 u4 from U3.out.trans (hc.mono (fun _ _ h => h.elim)))
                          clear hc HQ
                          go_wp2_with (go_at_call 8; refine (lives_true _).mono ?_; rintro e u7 ⟨rfl, h2'⟩; have U7 := Lib.hid h2'; clear h2')
                          go_ret
                          exact ⟨rfl, (H1.out.sh U4.out).trans U7.out⟩
end Go.Proofs.Ytedpjfanfhhfdaa
