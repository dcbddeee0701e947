/- The reference's Marks. -/
import Derived.Test.YtedpjfanfhhfdaaUMB
import Derived.Test.YtedpjfanfhhfdaaRefMarks
import Derived.Test.YtedpjfanfhhfdaaUBytes
/- The reference's To and Marks, told of a history. -/
namespace Go.Proofs.Ytedpjfanfhhfdaa
open Go.ChangeMaps Go.MapKept Go.WideShapes Go.RowKit Hist
open PUndoPlays
open Go.Proofs.YtedpjfanfhhfdaaW.PrintWords Go.Proofs.YtedpjfanfhhfdaaW.PrintLast Go.Proofs.YtedpjfanfhhfdaaW.PrintMore

theorem mto (F : Nat → Prop) (s : Hist) (nm : ByteArray) (v : Value) (w : World) (hF : ∀ i, w.heap.size ≤ i → F i) (hok : s.Ok) (h : HasM w F s v) :
    Calls Try.prog 29 #[v, .string nm] w fun e w' => ∃ v' A' c', e = .returned (.tuple #[v', .slice A' (toL s nm).length c', .int .i64 (toE s nm)]) ∧ HasM w' F (toP s nm) v' ∧ Row w' A' c' (toL s nm) ∧ Ch (fun _ => False) w w' := by
  obtain ⟨A1, c1, A2, c2, A3, c3, rfl, h⟩ := h
  unfold toL toE toP
  cases e : getM s.marks nm with
  | none =>
    refine (mto_none F s A1 c1 A2 c2 A3 c3 nm w hok h (idx_none e)).mono ?_
    rintro e w' ⟨rfl, hc⟩
    exact ⟨_, none, 0, rfl, ⟨A1, c1, A2, c2, A3, c3, rfl, h.ch0 hc⟩, Row.nil _, hc⟩
  | some t =>
    obtain ⟨i, hi, h1, h2⟩ := idx_some e
    have hm := hok.marks _ (getM_mem e)
    simp only at hm
    obtain ⟨k, rfl⟩ := Int.eq_ofNat_of_zero_le hm.1
    have hq : rd_T71 (s.marks.map mk71) (i : Int) = mk71 (nm, (k : Int)) := by rw [rd71 s.marks hi, h2]
    simp only [Int.toNat_natCast, Option.isSome_some, if_true]
    by_cases hk : k ≤ s.pos
    · exact mto_down F s A1 c1 A2 c2 A3 c3 nm w hok h i h1 (by omega) (by omega) k hq hk hF
    · exact mto_up F s A1 c1 A2 c2 A3 c3 nm w hok h i h1 (by omega) (by omega) k hq (by omega) (by omega) hF

/-- from some count of rounds on -/
def Ev {α : Type} (f : Nat → Option α) (r : α) : Prop := ∃ K, ∀ k, K ≤ k → f k = some r
theorem Ev.step {α : Type} {f g : Nat → Option α} {r : α} (h : Ev g r) (hf : ∀ k, f (k + 1) = g k) : Ev f r := by
  obtain ⟨K, h⟩ := h
  refine ⟨K + 1, fun k hk => ?_⟩
  obtain ⟨j, rfl⟩ : ∃ j, k = j + 1 := ⟨k - 1, by omega⟩
  rw [hf]; exact h j (by omega)
theorem Ev.const {α : Type} (r : α) : Ev (fun _ => some r) r := ⟨0, fun _ _ => rfl⟩
theorem bt_eq (a : ByteArray) {i : Nat} (h : i < a.size) : bt a (i : Int) = (a[i].toNat : Int) := by
  have := bt_at a (i : Int) (by simpa using h)
  rw [← this]
  congr 2
theorem ev_bytes (a b : ByteArray) (ha : a.size ≤ 1000000) : ∀ (n i : Nat), i + n = a.size → i ≤ b.size → Ev (fun k => foolscapref04_Bytes.l0 k a b (i : Int)) (cmpL (a.data.toList.drop i) (b.data.toList.drop i))
  | 0, i, hi, hb => by
    have e1 : ¬ (i : Int) < (a.size : Int) := by omega
    have d1 : a.data.toList.drop i = [] := by rw [List.drop_eq_nil_iff]; simp; omega
    refine Ev.step (g := fun k => foolscapref04_Bytes.j1 k a b (i : Int) false) (Ev.step (g := fun _ => some (cmpL (a.data.toList.drop i) (b.data.toList.drop i))) (Ev.const _) ?_) ?_
    · intro k
      show foolscapref04_Bytes.j1 (k + 1) a b (i : Int) false = _
      unfold foolscapref04_Bytes.j1
      rw [if_neg (by decide), d1, cmpL_nil_left]
      have h2 : decide ((a.size : Int) > (b.size : Int)) = false := decide_eq_false (by omega)
      unfold foolscapref04_sign.f
      by_cases c : a.size < b.size
      · have h3 : b.data.toList.drop i ≠ [] := by rw [Ne, List.drop_eq_nil_iff]; simp; omega
        rw [decide_eq_true (show (a.size : Int) < (b.size : Int) by omega), if_pos rfl, if_neg h3]; rfl
      · have h3 : b.data.toList.drop i = [] := by rw [List.drop_eq_nil_iff]; simp; omega
        rw [decide_eq_false (show ¬ (a.size : Int) < (b.size : Int) by omega), if_neg (by decide), h2, if_neg (by decide), if_pos h3]; rfl
    · intro k
      show foolscapref04_Bytes.l0 (k + 1) a b (i : Int) = _
      unfold foolscapref04_Bytes.l0
      rw [if_neg e1]
  | n + 1, i, hi, hb => by
    have hia : i < a.size := by omega
    have e1 : (i : Int) < (a.size : Int) := by omega
    have hw : wrap64 ((i : Int) + 1) = ((i + 1 : Nat) : Int) := by rw [IntWalk.wrap64_in _ (by omega)]; omega
    by_cases c : i < b.size
    · have e2 : (i : Int) < (b.size : Int) := by omega
      by_cases hx : a[i] = b[i]
      · have ih := ev_bytes a b ha n (i + 1) (by omega) (by omega)
        rw [drop_cons a hia, drop_cons b c, hx, cmpL_same]
        refine Ev.step (g := fun k => foolscapref04_Bytes.j1 k a b (i : Int) true) (Ev.step ih ?_) ?_
        · intro k
          show foolscapref04_Bytes.j1 (k + 1) a b (i : Int) true = _
          unfold foolscapref04_Bytes.j1
          rw [if_pos rfl, if_pos (by omega), if_pos e1, if_pos e2, if_pos (by rw [bt_eq a hia, bt_eq b c, hx]), hw]
        · intro k
          show foolscapref04_Bytes.l0 (k + 1) a b (i : Int) = _
          unfold foolscapref04_Bytes.l0
          rw [if_pos e1, decide_eq_true e2]
      · rw [drop_cons a hia, drop_cons b c, cmpL_ne hx]
        have hne : ¬ (a[i].toNat : Int) = (b[i].toNat : Int) := fun e => hx (UInt8.toNat_inj.1 (by omega))
        refine Ev.step (g := fun k => foolscapref04_Bytes.j1 k a b (i : Int) true) (Ev.step (Ev.const _) ?_) ?_
        · intro k
          show foolscapref04_Bytes.j1 (k + 1) a b (i : Int) true = _
          unfold foolscapref04_Bytes.j1
          rw [if_pos rfl, if_pos (by omega), if_pos e1, if_pos e2, if_neg (by rw [bt_eq a hia, bt_eq b c]; exact hne), bt_eq a hia, bt_eq b c]
          unfold foolscapref04_sign.f
          by_cases hlt : a[i] < b[i]
          · rw [decide_eq_true (show (a[i].toNat : Int) < (b[i].toNat : Int) by have := UInt8.lt_iff_toNat_lt.1 hlt; omega), if_pos rfl, if_pos hlt]; rfl
          · have h5 : ¬ (a[i].toNat : Int) < (b[i].toNat : Int) := fun h => hlt (UInt8.lt_iff_toNat_lt.2 (by omega))
            rw [decide_eq_false h5, if_neg (by decide), decide_eq_true (show (a[i].toNat : Int) > (b[i].toNat : Int) by omega), if_pos rfl, if_neg hlt]; rfl
        · intro k
          show foolscapref04_Bytes.l0 (k + 1) a b (i : Int) = _
          unfold foolscapref04_Bytes.l0
          rw [if_pos e1, decide_eq_true e2]
    · have e2 : ¬ (i : Int) < (b.size : Int) := by omega
      have d2 : b.data.toList.drop i = [] := by rw [List.drop_eq_nil_iff]; simp; omega
      have d1 : a.data.toList.drop i ≠ [] := by rw [Ne, List.drop_eq_nil_iff]; simp; omega
      rw [d2, cmpL_nil_right, if_neg d1]
      refine Ev.step (g := fun k => foolscapref04_Bytes.j1 k a b (i : Int) false) (Ev.step (Ev.const _) ?_) ?_
      · intro k
        show foolscapref04_Bytes.j1 (k + 1) a b (i : Int) false = _
        unfold foolscapref04_Bytes.j1
        rw [if_neg (by decide), decide_eq_false (show ¬ (a.size : Int) < (b.size : Int) by omega), decide_eq_true (show (a.size : Int) > (b.size : Int) by omega)]
        rfl
      · intro k
        show foolscapref04_Bytes.l0 (k + 1) a b (i : Int) = _
        unfold foolscapref04_Bytes.l0
        rw [if_pos e1, decide_eq_false e2]
theorem ev_bytes_f (a b : ByteArray) (ha : a.size ≤ 1000000) : Ev (fun k => foolscapref04_Bytes.f k a b) (cmpL a.data.toList b.data.toList) := by
  have := ev_bytes a b ha a.size 0 (by omega) (by omega)
  rw [List.drop_zero, List.drop_zero] at this
  exact this
end Go.Proofs.Ytedpjfanfhhfdaa
/- The reference's Marks, told of a history: the names in order. -/
namespace Go.Proofs.Ytedpjfanfhhfdaa
open Go.ChangeMaps Go.MapKept Go.WideShapes Go.RowKit Hist
open PUndoPlays
open Go.Proofs.YtedpjfanfhhfdaaW.PrintWords Go.Proofs.YtedpjfanfhhfdaaW.PrintLast Go.Proofs.YtedpjfanfhhfdaaW.PrintMore

abbrev Mk := ByteArray × Int
def LtP (p q : Mk) : Prop := p.2 < q.2 ∨ (p.2 = q.2 ∧ p.1.data.toList < q.1.data.toList)
instance (p q : Mk) : Decidable (LtP p q) := by unfold LtP; infer_instance
def ins (m : Mk) : List Mk → List Mk
  | [] => [m]
  | q :: r => if LtP q m then q :: ins m r else m :: q :: r
theorem ins_len (m : Mk) (l : List Mk) : (ins m l).length = l.length + 1 := by
  induction l with
  | nil => rfl
  | cons q r ih => unfold ins; split <;> simp [ih]
theorem ins_perm (m : Mk) (l : List Mk) : (ins m l).Perm (m :: l) := by
  induction l with
  | nil => exact List.Perm.refl _
  | cons q r ih =>
    unfold ins; split
    · exact (List.Perm.cons q ih).trans (List.Perm.swap m q r)
    · exact List.Perm.refl _
theorem LtP.trans {a b c : Mk} (h : LtP a b) (k : LtP b c) : LtP a c := by
  rcases h with h | ⟨h1, h2⟩ <;> rcases k with k | ⟨k1, k2⟩
  · exact .inl (by omega)
  · exact .inl (by omega)
  · exact .inl (by omega)
  · exact .inr ⟨by omega, List.lt_trans h2 k2⟩
theorem LtP.total {a b : Mk} (h : ¬ LtP a b) (hn : a.1 ≠ b.1) : LtP b a := by
  have h1 : ¬ a.2 < b.2 := fun e => h (.inl e)
  by_cases h2 : b.2 < a.2
  · exact .inl h2
  · have h3 : a.2 = b.2 := by omega
    have h4 : ¬ a.1.data.toList < b.1.data.toList := fun e => h (.inr ⟨h3, e⟩)
    refine .inr ⟨h3.symm, ?_⟩
    by_cases h5 : b.1.data.toList < a.1.data.toList
    · exact h5
    · exact absurd (ByteArray.ext (Array.toList_inj.1 (List.le_antisymm (List.not_lt.1 h5) (List.not_lt.1 h4)))) hn
theorem ins_asc (m : Mk) : ∀ (l : List Mk), l.Pairwise LtP → (∀ q ∈ l, q.1 ≠ m.1) → (ins m l).Pairwise LtP
  | [], _, _ => List.pairwise_singleton _ _
  | q :: r, h, hn => by
    rw [List.pairwise_cons] at h
    unfold ins
    split
    · rename_i hlt
      rw [List.pairwise_cons]
      refine ⟨fun x hx => ?_, ins_asc m r h.2 (fun q hq => hn q (List.mem_cons_of_mem _ hq))⟩
      rcases List.mem_cons.1 ((ins_perm m r).subset hx) with rfl | hx
      · exact hlt
      · exact h.1 x hx
    · rename_i hlt
      have hm : LtP m q := LtP.total hlt (hn q List.mem_cons_self)
      rw [List.pairwise_cons]
      refine ⟨fun x hx => ?_, List.pairwise_cons.2 h⟩
      rcases List.mem_cons.1 hx with rfl | hx
      · exact hm
      · exact hm.trans (h.1 x hx)
theorem foldl_ins (M : List Mk) : ∀ l : List Mk, l.Pairwise LtP → ((l ++ M).map (·.1)).Nodup → (M.foldl (fun l m => ins m l) l).Pairwise LtP ∧ (M.foldl (fun l m => ins m l) l).Perm (l ++ M) := by
  induction M with
  | nil => intro l h _; exact ⟨h, by simp⟩
  | cons m r ih =>
    intro l h hn
    have hp := ins_perm m l
    have hn2 : ((ins m l ++ r).map (·.1)).Nodup := by
      refine (List.Perm.nodup_iff ?_).2 hn
      refine List.Perm.map _ ?_
      exact (hp.append_right r).trans (List.perm_middle.symm)
    have hne : ∀ q ∈ l, q.1 ≠ m.1 := by
      intro q hq e
      rw [List.map_append, List.map_cons] at hn
      have := List.nodup_append.1 hn
      exact this.2.2 q.1 (List.mem_map.2 ⟨q, hq, rfl⟩) m.1 List.mem_cons_self e
    obtain ⟨h1, h2⟩ := ih (ins m l) (ins_asc m l h hne) hn2
    exact ⟨h1, h2.trans ((hp.append_right r).trans (List.perm_middle.symm))⟩
def isortM (M : List Mk) : List Mk := M.foldl (fun l m => ins m l) []
theorem named_isort {s : Hist} (h : s.Ok) : Named s ((isortM s.marks).map (·.1)) := by
  obtain ⟨h1, h2⟩ := foldl_ins s.marks [] List.Pairwise.nil (by simpa using h.nodup)
  refine ⟨h2.map _, ?_⟩
  rw [List.pairwise_map]
  refine h1.imp_of_mem fun {a b} ha hb hlt => ?_
  have e1 := getM_of_mem h.nodup (h2.subset ha)
  have e2 := getM_of_mem h.nodup (h2.subset hb)
  show (getM s.marks a.1).getD 0 < (getM s.marks b.1).getD 0 ∨ ((getM s.marks a.1).getD 0 = (getM s.marks b.1).getD 0 ∧ a.1.data.toList < b.1.data.toList)
  rw [e1, e2]
  exact hlt

theorem cmpL_neg (a b : List UInt8) : cmpL a b < 0 ↔ a < b := by
  unfold cmpL
  by_cases h : a < b
  · simp [h]
  · rw [if_neg h]
    constructor
    · intro h2; split at h2 <;> omega
    · intro h2; exact absurd h2 h

theorem ev_l2 (l : List Mk) (hl : l.length ≤ 1000) : ∀ (n i : Nat) (acc : List ByteArray), i + n = l.length → acc.length ≤ i → Ev (fun k => foolscapref25_History_Marks.l2 k (l.map mk71) acc (i : Int)) (acc ++ (l.drop i).map (·.1))
  | 0, i, acc, hi, _ => by
    refine Ev.step (g := fun _ => some (acc ++ (l.drop i).map (·.1))) (Ev.const _) fun k => ?_
    show foolscapref25_History_Marks.l2 (k + 1) (l.map mk71) acc (i : Int) = _
    conv => lhs; unfold foolscapref25_History_Marks.l2
    rw [if_neg (by rw [List.length_map]; omega), List.drop_of_length_le (by omega), List.map_nil, List.append_nil]
  | n + 1, i, acc, hi, ha => by
    have hlt : i < l.length := by omega
    have hw : wrap64 ((i : Int) + 1) = ((i + 1 : Nat) : Int) := by rw [IntWalk.wrap64_in _ (by omega)]; omega
    have ih := ev_l2 l hl n (i + 1) (acc ++ [l[i].1]) (by omega) (by simp; omega)
    rw [List.append_assoc] at ih
    rw [List.drop_eq_getElem_cons hlt, List.map_cons]
    refine Ev.step ih fun k => ?_
    show foolscapref25_History_Marks.l2 (k + 1) (l.map mk71) acc (i : Int) = _
    conv => lhs; unfold foolscapref25_History_Marks.l2
    rw [if_pos (by rw [List.length_map]; omega), if_pos (by omega), if_pos (by omega), rd71 l hlt, hw]
    rfl

theorem ev_l1 (K : Int) (d u : List Int) (M : List S71) (x4 : Int) (m : Mk) (r : List ByteArray) (hm : m.1.size ≤ 1000) (l : List Mk) (hl : l.length ≤ 1000) (hs : ∀ q ∈ l, q.1.size ≤ 1000) :
    ∀ (b a : List Mk), l = a ++ b → Ev (fun k => foolscapref25_History_Marks.l0 k ((a ++ ins m b).map mk71) (wrap64 (x4 + 1)) K d u M) r → Ev (fun k => foolscapref25_History_Marks.l1 k (l.map mk71) x4 (a.length : Int) K d u M m.1 m.2) r
  | [], a, e, h => by
    rw [List.append_nil] at e
    subst e
    refine Ev.step h fun k => ?_
    show foolscapref25_History_Marks.l1 (k + 1) (l.map mk71) x4 (l.length : Int) K d u M m.1 m.2 = _
    conv => lhs; unfold foolscapref25_History_Marks.l1
    rw [if_neg (by rw [List.length_map]; omega)]
    simp only [Option.bind_some, List.nil_append, List.length_nil, Int.toNat_natCast]
    rw [if_pos (by omega), if_pos (by rw [List.length_map]; omega), if_pos (by rw [List.length_take, List.length_map]; omega), if_pos (by rw [List.length_take, List.length_map]; omega), if_pos (by simp; omega)]
    rw [List.take_of_length_le (by rw [List.length_map]; omega), List.drop_of_length_le (by rw [List.length_map]; omega), List.append_nil, List.map_append]
    rfl
  | q :: t, a, e, h => by
    have hlt : a.length < l.length := by rw [e]; simp
    have hq : l[a.length] = q := by subst e; simp
    have hqs : q.1.size ≤ 1000 := hs q (by rw [e]; simp)
    have hw : wrap64 ((a.length : Int) + 1) = ((a ++ [q]).length : Int) := by rw [IntWalk.wrap64_in _ (by omega), List.length_append]; simp
    have hrd : rd_T71 (l.map mk71) (a.length : Int) = mk71 q := by rw [rd71 l hlt, hq]
    have hput : ∀ k, (if ((l.map mk71).take a.length).length < 5864062014805 then (if (((l.map mk71).take a.length) ++ [(⟨m.1, m.2⟩ : S71)]).length + ((l.map mk71).drop a.length).length < 5864062014805 then foolscapref25_History_Marks.l0 k (((l.map mk71).take a.length) ++ [(⟨m.1, m.2⟩ : S71)] ++ ((l.map mk71).drop a.length)) (wrap64 (x4 + 1)) K d u M else none) else none) =
        foolscapref25_History_Marks.l0 k ((a ++ m :: q :: t).map mk71) (wrap64 (x4 + 1)) K d u M := by
      intro k
      rw [if_pos (by rw [List.length_take, List.length_map]; omega), if_pos (by simp; omega)]
      have e1 : (l.map mk71).take a.length = a.map mk71 := by rw [e, ← List.map_take, List.take_left]
      have e2 : (l.map mk71).drop a.length = (q :: t).map mk71 := by rw [e, ← List.map_drop, List.drop_left]
      rw [e1, e2, List.map_append, List.append_assoc]
      rfl
    obtain ⟨KB, hB0⟩ := ev_bytes_f q.1 m.1 (by omega)
    have hB : ∀ k, KB ≤ k → foolscapref04_Bytes.f k q.1 m.1 = some (cmpL q.1.data.toList m.1.data.toList) := hB0
    by_cases c : LtP q m
    · have h' : Ev (fun k => foolscapref25_History_Marks.l0 k (((a ++ [q]) ++ ins m t).map mk71) (wrap64 (x4 + 1)) K d u M) r := by
        have e3 : ins m (q :: t) = q :: ins m t := by conv => lhs; unfold ins; rw [if_pos c]
        rw [e3] at h
        rw [List.append_assoc]; exact h
      obtain ⟨K1, h1⟩ := ev_l1 K d u M x4 m r hm l hl hs t (a ++ [q]) (by rw [e]; simp) h'
      refine ⟨KB + K1 + 1, fun k hk => ?_⟩
      obtain ⟨j, rfl⟩ : ∃ j, k = j + 1 := ⟨k - 1, by omega⟩
      show foolscapref25_History_Marks.l1 (j + 1) (l.map mk71) x4 (a.length : Int) K d u M m.1 m.2 = some r
      conv => lhs; unfold foolscapref25_History_Marks.l1
      rw [if_pos (by rw [List.length_map]; omega), if_pos (by omega), hrd, hw]
      have f1 : (mk71 q).f1 = q.2 := rfl
      have f0 : (mk71 q).f0 = q.1 := rfl
      rw [f1, f0]
      by_cases c1 : q.2 < m.2
      · rw [if_pos c1]; exact h1 j (by omega)
      · rcases c with c | ⟨c2, c3⟩
        · exact absurd c c1
        · rw [if_neg c1, if_pos c2, hB j (by omega), Option.bind_some, if_pos ((cmpL_neg _ _).2 c3)]
          exact h1 j (by omega)
    · have e3 : ins m (q :: t) = m :: q :: t := by conv => lhs; unfold ins; rw [if_neg c]
      rw [e3] at h
      obtain ⟨K1, h1⟩ := h
      refine ⟨KB + K1 + 1, fun k hk => ?_⟩
      obtain ⟨j, rfl⟩ : ∃ j, k = j + 1 := ⟨k - 1, by omega⟩
      have h1j := h1 j (by omega)
      have hp := hput j
      show foolscapref25_History_Marks.l1 (j + 1) (l.map mk71) x4 (a.length : Int) K d u M m.1 m.2 = some r
      conv => lhs; unfold foolscapref25_History_Marks.l1
      rw [if_pos (by rw [List.length_map]; omega), if_pos (by omega), hrd]
      have f1 : (mk71 q).f1 = q.2 := rfl
      have f0 : (mk71 q).f0 = q.1 := rfl
      rw [f1, f0]
      have c1 : ¬ q.2 < m.2 := fun e => c (.inl e)
      rw [if_neg c1]
      by_cases c2 : q.2 = m.2
      · have c3 : ¬ cmpL q.1.data.toList m.1.data.toList < 0 := fun e => c (.inr ⟨c2, (cmpL_neg _ _).1 e⟩)
        rw [if_pos c2, hB j (by omega), Option.bind_some, if_neg c3]
        simp only [Option.bind_some, List.nil_append, List.length_nil, Int.toNat_natCast]
        rw [if_pos (by rw [List.length_map]; omega), if_pos (by rw [List.length_take, List.length_map]; omega)]
        rw [hp]; exact h1j
      · rw [if_neg c2]
        simp only [Option.bind_some, List.nil_append, List.length_nil, Int.toNat_natCast]
        rw [if_pos (by rw [List.length_map]; omega), if_pos (by rw [List.length_take, List.length_map]; omega)]
        rw [hp]; exact h1j

theorem ev_l0 (K : Int) (d u : List Int) (M : List Mk) (hM : M.length ≤ 500) (hs : ∀ q ∈ M, q.1.size ≤ 1000) : ∀ (n i : Nat) (l : List Mk), i + n = M.length → l.length = i → (∀ q ∈ l, q.1.size ≤ 1000) →
    Ev (fun k => foolscapref25_History_Marks.l0 k (l.map mk71) (i : Int) K d u (M.map mk71)) (((M.drop i).foldl (fun l m => ins m l) l).map (·.1))
  | 0, i, l, hi, hl, _ => by
    have h2 := ev_l2 l (by omega) l.length 0 [] (by omega) (Nat.le_refl _)
    rw [List.drop_zero, List.nil_append] at h2
    rw [List.drop_of_length_le (by omega), List.foldl_nil]
    refine Ev.step h2 fun k => ?_
    show foolscapref25_History_Marks.l0 (k + 1) (l.map mk71) (i : Int) K d u (M.map mk71) = _
    conv => lhs; unfold foolscapref25_History_Marks.l0
    rw [if_neg (by rw [List.length_map]; omega)]
    rfl
  | n + 1, i, l, hi, hl, hq => by
    have hlt : i < M.length := by omega
    have hw : wrap64 ((i : Int) + 1) = ((i + 1 : Nat) : Int) := by rw [IntWalk.wrap64_in _ (by omega)]; omega
    have hms := hs M[i] (List.getElem_mem hlt)
    have ih := ev_l0 K d u M hM hs n (i + 1) (ins M[i] l) (by omega) (by rw [ins_len, hl]) (fun q h => by
      rcases List.mem_cons.1 ((ins_perm M[i] l).subset h) with rfl | h
      · exact hms
      · exact hq q h)
    rw [← hw] at ih
    have h1 := ev_l1 K d u (M.map mk71) (i : Int) M[i] _ hms l (by omega) hq l [] rfl ih
    rw [List.drop_eq_getElem_cons hlt, List.foldl_cons]
    refine Ev.step h1 fun k => ?_
    show foolscapref25_History_Marks.l0 (k + 1) (l.map mk71) (i : Int) K d u (M.map mk71) = _
    conv => lhs; unfold foolscapref25_History_Marks.l0
    rw [if_pos (by rw [List.length_map]; omega), if_pos (by omega), rd71 M hlt]
    rfl

theorem rowS_of_R {w : World} {base : Nat} {ok : Nat → Prop} {v : Value} {ns : List ByteArray} (h : Kd.string.R 9 w base ok v ns) : ∃ A c, v = .slice A ns.length c ∧ RowS w A c ns := by
  have ho := Kd.own_of_R h
  obtain ⟨hl, ho⟩ := ho
  rcases ho with ⟨rfl, h0⟩ | ⟨g, cap, cur, rfl, hb, hblk, hn, hc, hs, hx⟩
  · obtain rfl : ns = [] := List.eq_nil_of_length_eq_zero h0
    exact ⟨none, 0, rfl, Nat.le_refl _, fun h => absurd rfl h⟩
  · refine ⟨_, _, rfl, hn, fun _ => ⟨g, 0, rfl, fun j hj => ?_⟩⟩
    rw [Nat.zero_add, cell_of_blk hblk, ← Array.getElem?_toList]
    have : (cur.toList.take (ns.length * 1))[j]? = (ns.map Value.string)[j]? := by rw [hx]; rfl
    rw [Nat.mul_one, List.getElem?_take_of_lt hj, List.getElem?_map, List.getElem?_eq_getElem hj] at this
    rw [this, List.getD_eq_getElem?_getD, List.getElem?_eq_getElem hj]
    rfl

theorem mmarks (F : Nat → Prop) (s : Hist) (v : Value) (w : World) (hok : s.Ok) (h : HasM w F s v) :
    Calls Try.prog 18 #[v] w fun e w' => ∃ A c ns, e = .returned (.slice A ns.length c) ∧ RowS w' A c ns ∧ Named s ns ∧ Ch (fun _ => False) w w' := by
  obtain ⟨A1, c1, A2, c2, A3, c3, rfl, h⟩ := h
  have h1 := hok.pos
  have h2 := hok.all
  have h3 := hok.most
  have hc := hok.count
  have hl : (s.all.take s.pos).length = s.pos := by rw [List.length_take]; omega
  have hl2 : (s.all.drop s.pos).length = s.all.length - s.pos := by rw [List.length_drop]
  have k1 := C_of_row h.one (by omega)
  have k2 := C_of_row h.two (by omega)
  have k3 : k71.C w A3 (s.marks.map mk71).length (s.marks.map mk71) := by rw [List.length_map]; exact h.three.read
  obtain ⟨K, hK⟩ := ev_l0 s.most (s.all.take s.pos) (s.all.drop s.pos) s.marks (by omega) (fun q hq => by have := hok.names q hq; omega) s.marks.length 0 [] (by omega) rfl (fun q hq => by cases hq)
  have hf : foolscapref25_History_Marks.f K s.most (s.all.take s.pos) (s.all.drop s.pos) (s.marks.map mk71) = some ((isortM s.marks).map (·.1)) := hK K (Nat.le_refl _)
  have := foolscapref25_History_Marks.calls K s.most A1 c1 (s.all.take s.pos) A2 c2 (s.all.drop s.pos) A3 c3 (s.marks.map mk71) _ w k1 h.one.1 k2 h.two.1 k3 (by rw [List.length_map]; exact h.three.cap) hf
  rw [hl, hl2, List.length_map] at this
  refine this.mono ?_
  rintro e w' ⟨v0, rfl, hr, hb⟩
  obtain ⟨A, c, rfl, hrow⟩ := rowS_of_R hr
  exact ⟨A, c, _, rfl, hrow, named_isort hok, Ch.of_below hb⟩
end Go.Proofs.Ytedpjfanfhhfdaa
