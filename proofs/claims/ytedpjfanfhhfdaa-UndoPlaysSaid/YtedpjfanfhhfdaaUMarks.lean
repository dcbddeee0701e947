/- The walks of slices.SortedFunc and Marks. -/
import Derived.Test.YtedpjfanfhhfdaaUNames
import Derived.Test.YtedpjfanfhhfdaaUMark
namespace Go.Proofs.Ytedpjfanfhhfdaa
open Go.MapKept Go.WideShapes Go.RowKit Hist Go.Sort Go.Maps Go.Shelf

theorem names_list {L : List Ent} {ss : List (List UInt8)} (h : ss.Perm (L.map fun x => x.key.data.toList)) (hs : ∀ x ∈ L, x.key.size ≤ 20) : ∃ d : List Nm, d.map (·.1) = ss ∧ (d.map Nm.b).Perm (L.map (·.key)) := by
  have hl : ∀ l ∈ ss, l.length ≤ 20 := by
    intro l hl
    obtain ⟨x, hx, rfl⟩ := List.mem_map.1 (h.subset hl)
    have h1 := hs x hx
    have e : x.key.data.toList.length = x.key.size := Array.length_toList
    omega
  refine ⟨ss.pmap Subtype.mk hl, ?_, ?_⟩
  · rw [List.map_pmap]; simp
  · rw [List.map_pmap]
    have e : (L.map fun x => x.key.data.toList).map (fun l => (⟨l.toArray⟩ : ByteArray)) = L.map (·.key) := by
      rw [List.map_map]
      exact List.map_congr_left fun x _ => rfl
    rw [← e]
    have := h.map (fun l => (⟨l.toArray⟩ : ByteArray))
    refine List.Perm.trans (List.Perm.of_eq ?_) this
    simp [Nm.b, List.pmap_eq_map]
def sortN (L : List Ent) (d : List Nm) : List Nm := d.mergeSort fun x y => !(ltOf (cfN L)) y x
theorem nm_inj {x y : Nm} (h : x.b = y.b) : x = y := by
  apply Subtype.ext
  have := congrArg (fun b : ByteArray => b.data.toList) h
  exact this
theorem sortN_asc (L : List Ent) (d : List Nm) (hn : (d.map Nm.b).Nodup) : ((sortN L d).map Nm.b).Pairwise (LtM (gE L)) := by
  have O := swoN L
  have p := List.mergeSort_perm d fun x y => !(ltOf (cfN L)) y x
  have hp : (sortN L d).Pairwise fun x y => (!(ltOf (cfN L)) y x) = true := by
    refine List.pairwise_mergeSort ?_ ?_ d
    · intro a b c h1 h2
      simp only [Bool.not_eq_eq_eq_not, Bool.not_true] at *
      exact O.ntrans _ _ _ h2 h1
    · intro a b
      simp only [Bool.or_eq_true, Bool.not_eq_eq_eq_not, Bool.not_true]
      cases e : ltOf (cfN L) b a with
      | false => exact .inl rfl
      | true =>
        cases e2 : ltOf (cfN L) a b with
        | false => exact .inr rfl
        | true => exact absurd (O.trans _ _ _ e e2) (by rw [O.irrefl]; simp)
  have hn2 : ((sortN L d).map Nm.b).Nodup := (p.map Nm.b).nodup_iff.2 hn
  rw [List.pairwise_map]
  have hn3 := List.pairwise_map.1 hn2
  refine (hp.and hn3).imp ?_
  rintro x y ⟨h1, h2⟩
  have h3 : ltOf (cfN L) x y = true := by
    cases e : ltOf (cfN L) x y with
    | true => rfl
    | false => exact absurd (congrArg Nm.b (totN L x y e (by simpa using h1))) h2
  rw [ltN, decide_eq_true_iff] at h3
  exact h3

/-- what SortedFunc hands back -/
def NamesPost (w : World) (L : List Ent) (e : Ending) (w' : World) : Prop :=
  ∃ A c ns, e = .returned (.slice A ns.length c) ∧ RowS w' A c ns ∧ (∀ ad, A = some ad → w.heap.size ≤ ad.block) ∧ ns.Perm (L.map (·.key)) ∧ ns.Pairwise (LtM (gE L)) ∧ Ch (fun _ => False) w w'

/-- a row of names sorted -/
theorem names_sorted {w w1 : World} {L : List Ent} {g cap : Nat} {ss : List (List UInt8)} {cur : Array Value} (hss : ss.Perm (L.map fun x => x.key.data.toList)) (hs : ∀ x ∈ L, x.key.size ≤ 20) (hk : (L.map (·.key)).Nodup)
    (hg : w.heap.size ≤ g) (hcell : w1.heap[g]? = some (.cells cur 9 (0, 0))) (hcap : ss.length ≤ cap) (htake : cur.toList.take ss.length = ss.map encStr) (hb : Below w.heap.size w w1) :
    ∃ d : Array Nm, d.size = ss.length ∧ Holds encN w1 g 0 d ∧ ∀ n os, NamesPost w L (.returned (.slice (some ⟨g, 0, none⟩) ss.length cap)) (sortWorld encN w1 g 0 n (d.toList.mergeSort fun x y => !(ltOf (cfN L)) y x).toArray os) := by
  obtain ⟨d, hd, hdp⟩ := names_list hss hs
  have hlen : d.length = ss.length := by rw [← hd, List.length_map]
  have hH : Holds encN w1 g 0 d.toArray := by
    intro j hj
    have hj' : j < d.length := by simpa using hj
    refine ⟨?_, frozen_of_blk hcell _⟩
    rw [cell_of_blk hcell]
    have h1 : (cur.toList.take ss.length)[j]? = cur.toList[j]? := by rw [List.getElem?_take_of_lt (by omega)]
    have h2 : (ss.map encStr)[j]? = some (encN d[j]) := by
      rw [← hd, List.map_map, List.getElem?_map, List.getElem?_eq_getElem hj']
      rfl
    rw [htake, h2] at h1
    have h3 : cur[0 + j]? = some (encN d[j]) := by
      rw [Nat.zero_add]
      have := h1.symm
      rwa [Array.getElem?_toList] at this
    rw [h3]
    congr 2
    rw [getElem!_pos d.toArray j hj]
    rfl
  refine ⟨d.toArray, by simpa using hlen, hH, fun n os => ?_⟩
  have hg2 : g < w1.heap.size := blk_size hcell
  have p := List.mergeSort_perm d fun x y => !(ltOf (cfN L)) y x
  have hH2 := holds_sortWorld encN w1 g 0 n d.toArray (sortN L d).toArray os hg2 hH (by simp [sortN])
  refine ⟨some ⟨g, 0, none⟩, cap, (sortN L d).map Nm.b, ?_, ?_, ?_, ?_, ?_, ?_⟩
  · rw [List.length_map, sortN, p.length_eq, hlen]
  · have hl : ((sortN L d).map Nm.b).length = ss.length := by rw [List.length_map, sortN, p.length_eq, hlen]
    refine ⟨by omega, fun _ => ⟨g, 0, rfl, fun j hj => ?_⟩⟩
    have hj' : j < (sortN L d).length := by simpa using hj
    have h1 := (hH2 j (by simpa using hj')).1
    show (sortWorld encN w1 g 0 n (sortN L d).toArray os).cell? _ = _
    rw [h1, getElem!_pos _ j (by simpa using hj')]
    rw [List.getD_eq_getElem?_getD, List.getElem?_map, List.getElem?_eq_getElem hj']
    rfl
  · intro ad e; cases e; exact hg
  · exact ((p.map Nm.b).trans hdp)
  · exact sortN_asc L d (hdp.nodup_iff.2 hk)
  · exact (Ch.of_below hb (S := fun _ => False)).trans' (sortWorld_ch w1 g 0 n _ os) (fun _ h => h) (fun i hi e => by subst e; omega)

set_option maxRecDepth 100000 in
set_option maxHeartbeats 1000000 in
theorem sorted_any (pb B hb mb : Nat) (L : List Ent) (clk : Nat) (w : World) (hB : w.cell? ⟨B, 0, none⟩ = some (.map (some mb))) (hp : w.cell? ⟨pb, 0, none⟩ = some (.pointer (some ⟨hb, 0, none⟩)))
    (h3 : w.cell? ⟨hb, 3, none⟩ = some (.map (some mb))) (hm : MapB w mb L clk) (hL : L.length ≤ 16) (hs : ∀ x ∈ L, x.key.size ≤ 20) :
    Calls Try.prog 31 #[.func (.func 41) #[] #[.pointer (some ⟨B, 0, none⟩)], .func (.func 33) #[] #[.pointer (some ⟨pb, 0, none⟩)]] w (NamesPost w L) := by
  have hC := Lib.hid (collect_names B mb L clk w hB hm (by omega))
  have hplt := World.block_lt_of_cell? w _ hp
  have hhlt := World.block_lt_of_cell? w _ h3
  have hmlt := blk_size hm.blk
  have HP := Lib.hid hp
  have H3 := Lib.hid h3
  have HM := Lib.hid hm
  clear hB hp h3 hm
  go_enter Try.func31, Try.ntmps31
  go_wp2_with fail
  go_at_call 39
  refine hC.out.mono ?_
  rintro e w1 ⟨v, ss, rfl, hss, hrow, hnil, hb'⟩
  have hss2 := hss.length_eq
  rw [List.length_map] at hss2
  rcases hrow.2 with ⟨rfl, h0⟩ | ⟨g, cap, cur, rfl, hg, hblk, hn, hcap, hsz, ht⟩
  · have e0 : ss = [] := List.length_eq_zero_iff.1 h0
    subst e0
    have eL : L = [] := List.length_eq_zero_iff.1 hss2.symm
    subst eL
    have HB := Lib.hid hb'
    clear hss hrow hnil hb' hss2 h0
    go_wp2_with (go_at_call 40; refine (AnyF.slices_SortFunc_none (P := Try.prog) (ρ := Try.sortL_ren) { Try.sortL with } none 0 _ _).mono ?_; rintro e w' ⟨rfl, rfl⟩)
    go_ret
    exact ⟨none, 0, [], rfl, ⟨Nat.le_refl _, fun h => absurd rfl h⟩, (fun ad e => by cases e), List.Perm.refl _, List.Pairwise.nil, Ch.of_below HB.out⟩
  · rw [Nat.mul_one] at ht
    obtain ⟨d, hd, hH, hF⟩ := names_sorted hss hs HM.out.keys hg hblk hn ht hb'
    have HF := Lib.hid hF
    have k1 : w1.cell? ⟨pb, 0, none⟩ = some (.pointer (some ⟨hb, 0, none⟩)) := (hb'.cell (p := ⟨pb, 0, none⟩) hplt).trans HP.out
    have k2 : w1.cell? ⟨hb, 3, none⟩ = some (.map (some mb)) := (hb'.cell (p := ⟨hb, 3, none⟩) hhlt).trans H3.out
    have k3 : MapB w1 mb L clk := HM.out.keep (hb'.block mb hmlt)
    have k4 : g < w1.heap.size := blk_size hblk
    have k5 : pb ≠ g := fun e => by subst e; exact Nat.lt_irrefl _ (Nat.lt_of_lt_of_le hplt hg)
    have k6 : hb ≠ g := fun e => by subst e; exact Nat.lt_irrefl _ (Nat.lt_of_lt_of_le hhlt hg)
    have k7 : mb ≠ g := fun e => by subst e; exact Nat.lt_irrefl _ (Nat.lt_of_lt_of_le hmlt hg)
    have k8 : d.size < 1000 := by rw [hd]; omega
    have HS0 := sort_any pb hb mb g 0 cap d L clk w1 k1 k2 k3 k5 k6 k7 hH k4 k8
    rw [hd] at HS0
    have HS := Lib.hid HS0
    clear HS0 k1 k2 k3 k4 k5 k6 k7 k8
    clear hss hrow hnil hb' hss2 hF hH hblk ht
    go_wp2_with (go_at_call 40; refine HS.out.mono ?_; rintro e w' ⟨rfl, n, os, rfl⟩)
    go_ret
    exact HF.out n os

theorem keys_any (m : Option Nat) (W : World) : Calls Try.prog 32 #[.map m] W fun e w' => e = .returned (.func (.func 41) #[] #[.pointer (some ⟨W.heap.size, 0, none⟩)]) ∧ w' = W.alloc (.cells #[.map m] 53) :=
  (callsIn_wide (n := 5)).1 (AnyZ.keys_in Try.keysL Fence.wide 5 trivial rfl m W)

def MarksPost (w : World) (s : Hist) (e : Ending) (w' : World) : Prop :=
  ∃ A c ns, e = .returned (.slice A ns.length c) ∧ RowS w' A c ns ∧ (∀ ad, A = some ad → w.heap.size ≤ ad.block) ∧ Named s ns ∧ Ch (fun _ => False) w w'

set_option maxRecDepth 100000 in
set_option maxHeartbeats 1000000 in
theorem marks_any (hb mb : Nat) (s : Hist) (w : World) (h : Hs w hb mb s) : Calls Try.prog 17 #[.pointer (some ⟨hb, 0, none⟩)] w (MarksPost w s) := by
  obtain ⟨A, c, L, clk, h⟩ := h
  have h3 := h.c3
  have H := Lib.hid h
  clear h
  go_enter Try.func17, Try.ntmps17
  have hS : ∀ B, B = w.heap.size + 1 → Calls Try.prog 31 #[.func (.func 41) #[] #[.pointer (some ⟨B, 0, none⟩)], .func (.func 33) #[] #[.pointer (some ⟨w.heap.size, 0, none⟩)]]
      ((w.alloc (.cells #[.pointer (some ⟨hb, 0, none⟩)] 23)).alloc (.cells #[.map (some mb)] 53)) (MarksPost w s) := by
    rintro B rfl
    have h := H.out
    have k1 := (MapKept.heap_alloc w (.cells #[.pointer (some ⟨hb, 0, none⟩)] 23)).1
    have k2 := (MapKept.heap_alloc (w.alloc (.cells #[.pointer (some ⟨hb, 0, none⟩)] 23)) (.cells #[.map (some mb)] 53)).1
    have hch : Ch (fun _ => False) w ((w.alloc (.cells #[.pointer (some ⟨hb, 0, none⟩)] 23)).alloc (.cells #[.map (some mb)] 53)) := ((Ch.refl _ w).alloc _).alloc _
    have hsz : (w.alloc (.cells #[.pointer (some ⟨hb, 0, none⟩)] 23)).heap.size = w.heap.size + 1 := by simp
    rw [hsz] at k2
    have hch1 := (Ch.refl (fun _ => False) (w.alloc (.cells #[.pointer (some ⟨hb, 0, none⟩)] 23))).alloc (.cells #[.map (some mb)] 53)
    have hh := h.ch0 hch
    refine (sorted_any w.heap.size (w.heap.size + 1) hb mb L clk _ (by rw [cell_of_blk k2]; rfl) (by rw [cell_of_blk (hch1.blk k1 (fun h => h))]; rfl) hh.c3 hh.map (by rw [h.len]; exact h.ok.count) ?_).mono ?_
    · intro x hx
      exact h.ok.names _ (h.perm.subset (List.mem_map.2 ⟨x, hx, rfl⟩))
    · rintro e w' ⟨A', c', ns, rfl, hr, hA, hp, hasc, hc⟩
      have hg : gE L = fun n => (getM s.marks n).getD 0 := by
        funext n
        unfold gE
        rw [h.get]
      refine ⟨A', c', ns, rfl, hr, fun ad e => Nat.le_trans hch.size (hA ad e), ⟨?_, ?_⟩, hch.trans hc⟩
      · have := h.perm.map (·.1)
        rw [List.map_map] at this
        exact hp.trans this
      · rw [← hg]; exact hasc
  have HS := Lib.hid hS
  clear hS
  have h3' : (w.alloc (.cells #[.pointer (some ⟨hb, 0, none⟩)] 23)).cell? ⟨hb, 3, none⟩ = some (.map (some mb)) := (World.cell?_alloc_lt w _ _ (World.block_lt_of_cell? w _ h3)).trans h3
  go_wp2_with (go_at_call 23; refine (made_any hb mb _ h3').mono ?_; rintro e w' ⟨rfl, rfl⟩)
  refine (keys_any (some mb) _).mono ?_
  rintro e w' ⟨rfl, rfl⟩
  go_wp2_with (go_at_call 31; refine (HS.out _ (by simp)).mono ?_; rintro e w' ⟨A', c', ns, rfl, hr, hA, hN, hc⟩)
  go_ret
  exact ⟨A', c', ns, rfl, hr, hA, hN, hc⟩
end Go.Proofs.Ytedpjfanfhhfdaa
