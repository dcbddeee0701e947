/- Marks in order: what the library's sort makes of names under the closure. -/
import Derived.Test.YtedpjfanfhhfdaaUClos
import Derived.Test.YtedpjfanfhhfdaaULay
namespace Go.Proofs.Ytedpjfanfhhfdaa
open Go.ChangeMaps Go.MapKept Go.WideShapes Go.RowKit Hist Go.Sort

/-- a name -/
abbrev Nm := { l : List UInt8 // l.length ≤ 20 }
instance : Inhabited Nm := ⟨⟨[], by simp⟩⟩
def Nm.b (x : Nm) : ByteArray := ⟨x.1.toArray⟩
def encN (x : Nm) : Value := .string x.b
def cfN (L : List Ent) (x y : Nm) : Int := closV L x.b y.b
theorem Nm.data (x : Nm) : x.b.data.toList = x.1 := rfl
theorem Nm.size (x : Nm) : x.b.size ≤ maxLen := by
  have : x.b.size = x.1.length := by simp [Nm.b, ByteArray.size]
  have h := x.2
  unfold maxLen
  omega

/-- one name stands ahead of another -/
def LtM (g : ByteArray → Int) (a b : ByteArray) : Prop := g a < g b ∨ (g a = g b ∧ a.data.toList < b.data.toList)
theorem LtM.asymm {g : ByteArray → Int} {a b : ByteArray} (h : LtM g a b) (k : LtM g b a) : False := by
  rcases h with h | ⟨h1, h2⟩ <;> rcases k with k | ⟨k1, k2⟩
  · omega
  · omega
  · omega
  · exact List.lt_irrefl _ (List.lt_trans h2 k2)
def gE (L : List Ent) (a : ByteArray) : Int := (getE L a).getD 0

theorem ltN (L : List Ent) (x y : Nm) : ltOf (cfN L) x y = decide (gE L x.b < gE L y.b ∨ (gE L x.b = gE L y.b ∧ x.1 < y.1)) := by
  unfold ltOf cfN closV
  rw [Nm.data, Nm.data]
  show decide (orI (cmpI (gE L x.b) (gE L y.b)) (cmpL x.1 y.1) < 0) = _
  unfold orI cmpI cmpL
  generalize gE L x.b = p
  generalize gE L y.b = q
  by_cases h1 : p < q
  · simp [h1]
  · by_cases h2 : q < p
    · have : ¬ p = q := by omega
      simp [h1, h2, this]
    · have he : p = q := by omega
      subst he
      by_cases h3 : x.1 < y.1
      · simp [h3]
      · by_cases h4 : y.1 < x.1
        · simp [h3, h4]
        · simp [h3, h4]

theorem swoN (L : List Ent) : SWO (ltOf (cfN L)) where
  irrefl x := by rw [ltN, decide_eq_false_iff_not]; rintro (h | ⟨_, h⟩); omega; exact List.lt_irrefl _ h
  trans x y z h1 h2 := by
    rw [ltN, decide_eq_true_iff] at *
    rcases h1 with h | ⟨h, h'⟩ <;> rcases h2 with k | ⟨k, k'⟩
    · exact .inl (by omega)
    · exact .inl (by omega)
    · exact .inl (by omega)
    · exact .inr ⟨by omega, List.lt_trans h' k'⟩
  ntrans x y z h1 h2 := by
    rw [ltN, decide_eq_false_iff_not] at *
    rintro (h | ⟨h, h'⟩)
    · rcases Int.lt_or_le (gE L x.b) (gE L y.b) with a | a
      · exact h1 (.inl a)
      · exact h2 (.inl (by omega))
    · have a1 : ¬ gE L x.b < gE L y.b := fun a => h1 (.inl a)
      have a2 : ¬ gE L y.b < gE L z.b := fun a => h2 (.inl a)
      have e1 : gE L x.b = gE L y.b := by omega
      have e2 : gE L y.b = gE L z.b := by omega
      have b1 : ¬ x.1 < y.1 := fun b => h1 (.inr ⟨e1, b⟩)
      have b2 : ¬ y.1 < z.1 := fun b => h2 (.inr ⟨e2, b⟩)
      have c : z.1 ≤ x.1 := List.le_trans (List.not_lt.1 b2) (List.not_lt.1 b1)
      exact List.not_lt.2 c h'
theorem totN (L : List Ent) (x y : Nm) (h1 : (ltOf (cfN L)) x y = false) (h2 : (ltOf (cfN L)) y x = false) : x = y := by
  rw [ltN, decide_eq_false_iff_not] at h1 h2
  have a1 : ¬ gE L x.b < gE L y.b := fun a => h1 (.inl a)
  have a2 : ¬ gE L y.b < gE L x.b := fun a => h2 (.inl a)
  have b1 : ¬ x.1 < y.1 := fun b => h1 (.inr ⟨by omega, b⟩)
  have b2 : ¬ y.1 < x.1 := fun b => h2 (.inr ⟨by omega, b⟩)
  exact Subtype.ext (List.le_antisymm (List.not_lt.1 b2) (List.not_lt.1 b1))

/-- in a world that the sort passes through all other blocks are as they were -/
theorem sortWorld_blk {w : World} {blk off m : Nat} {dk : Array Nm} {os : Array Obj} {i : Nat} (hi : i < w.heap.size) (hne : i ≠ blk) : (sortWorld encN w blk off m dk os).heap[i]? = w.heap[i]? := by
  simp only [sortWorld, grow, putRow, mapBlock, Sort.ahead]
  rw [Array.getElem?_append_left (by simpa using hi), Array.getElem?_modify, if_neg (fun e => hne e.symm)]
theorem sortWorld_ch (w : World) (blk off m : Nat) (dk : Array Nm) (os : Array Obj) : Ch (· = blk) w (sortWorld encN w blk off m dk os) :=
  ⟨rfl, rfl, rfl, by simp [sortWorld, grow, putRow, mapBlock, Sort.ahead], fun i hi hne => sortWorld_blk hi hne⟩

theorem cmp_lays (pb hb mb blk off size : Nat) (L : List Ent) (clk : Nat) (w : World) (hp : w.cell? ⟨pb, 0, none⟩ = some (.pointer (some ⟨hb, 0, none⟩))) (h3 : w.cell? ⟨hb, 3, none⟩ = some (.map (some mb))) (hm : MapB w mb L clk)
    (hpb : pb ≠ blk) (hhb : hb ≠ blk) (hmb : mb ≠ blk) : CmpLays1 Try.prog 33 #[.pointer (some ⟨pb, 0, none⟩)] encN (cfN L) blk off size w := by
  intro m os dk hs x y
  have k := sortWorld_ch w blk off m dk os
  have cell : ∀ (b i : Nat) (v : Value), w.cell? ⟨b, i, none⟩ = some v → b ≠ blk → (sortWorld encN w blk off m dk os).cell? ⟨b, i, none⟩ = some v := by
    intro b i v hc hne
    have hlt := World.block_lt_of_cell? w _ hc
    rw [← hc]
    simp only [World.cell?, sortWorld_blk (off := off) (m := m) (dk := dk) (os := os) hlt hne]
  refine (clos_any pb hb mb x.b y.b L clk _ (cell _ _ _ hp hpb) (cell _ _ _ h3 hhb) (hm.ch k hmb) x.size y.size).mono ?_
  rintro e w' ⟨rfl, a, b, rfl⟩
  exact ⟨rfl, 1, #[.cells #[.int .i64 a, .int .i64 b] 3 (0, 0)], alloc_eq_grow _ _⟩

theorem sort_any (pb hb mb blk off cap : Nat) (d : Array Nm) (L : List Ent) (clk : Nat) (w : World) (hp : w.cell? ⟨pb, 0, none⟩ = some (.pointer (some ⟨hb, 0, none⟩))) (h3 : w.cell? ⟨hb, 3, none⟩ = some (.map (some mb))) (hm : MapB w mb L clk)
    (hpb : pb ≠ blk) (hhb : hb ≠ blk) (hmb : mb ≠ blk) (hH : Holds encN w blk off d) (hblk : blk < w.heap.size) (hsz : d.size < 1000) :
    Calls Try.prog 40 #[.slice (some ⟨blk, off, none⟩) d.size cap, .func (.func 33) #[] #[.pointer (some ⟨pb, 0, none⟩)]] w fun e w' =>
      e = .returned (.tuple #[]) ∧ ∃ n os, w' = sortWorld encN w blk off n (d.toList.mergeSort fun x y => !(ltOf (cfN L)) y x).toArray os :=
  Any.slices_SortFunc_total Try.sortL encN (fun _ => rfl) (cfN L) (swoN L) 33 #[.pointer (some ⟨pb, 0, none⟩)] blk off cap d w (enters_of Try.func33 (by kernel_rfl) rfl)
    (cmp_lays pb hb mb blk off d.size L clk w hp h3 hm hpb hhb hmb) hH hblk (by omega) (totN L)
end Go.Proofs.Ytedpjfanfhhfdaa
