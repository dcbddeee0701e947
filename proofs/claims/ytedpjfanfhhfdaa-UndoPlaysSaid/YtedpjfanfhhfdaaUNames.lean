/- The walk of Marks. -/
import Derived.Test.YtedpjfanfhhfdaaUSort
import Derived.Test.YtedpjfanfhhfdaaUWalk3
import Derived.Shelf.SlIter.Collect
namespace Go.Proofs.Ytedpjfanfhhfdaa
open Go.MapKept Go.WideShapes Go.WideElems Go.RowKit Hist Go.Sort Go.Maps Go.Shelf

/-- a slice of texts at address A that reads as ns -/
def RowS (w : World) (A : Option Addr) (c : Nat) (ns : List ByteArray) : Prop :=
  ns.length ≤ c ∧ (ns ≠ [] → ∃ b off, A = some ⟨b, off, none⟩ ∧ ∀ j, j < ns.length → w.cell? ⟨b, off + j, none⟩ = some (.string (ns.getD j default)))
theorem RowS.ch {S : Nat → Prop} {w w' : World} {A : Option Addr} {c : Nat} {ns : List ByteArray} (h : RowS w A c ns) (k : Ch S w w') (hA : ∀ ad, A = some ad → ¬ S ad.block) : RowS w' A c ns := by
  refine ⟨h.1, fun hx => ?_⟩
  obtain ⟨b, off, e, hc⟩ := h.2 hx
  refine ⟨b, off, e, fun j hj => ?_⟩
  have h1 := hc j hj
  have hlt := World.block_lt_of_cell? w _ h1
  rw [← h1]
  have hb := k.block b hlt (hA _ e)
  simp only [World.cell?, hb]
theorem RowS.ch0 {w w' : World} {A : Option Addr} {c : Nat} {ns : List ByteArray} (h : RowS w A c ns) (k : Ch (fun _ => False) w w') : RowS w' A c ns := h.ch k (fun _ _ h => h)

/-- the names of a history in order -/
structure Named (s : Hist) (ns : List ByteArray) : Prop where
  perm : ns.Perm (s.marks.map (·.1))
  asc : ns.Pairwise (LtM fun n => (getM s.marks n).getD 0)
theorem Named.unique {s : Hist} {a b : List ByteArray} (h : Named s a) (k : Named s b) : a = b :=
  List.Perm.eq_of_pairwise (fun _ _ _ _ h1 h2 => (h1.asymm h2).elim) h.asc k.asc (h.perm.trans k.perm.symm)

/-! ### the map of names as the library's iterator has it -/
noncomputable def RN : Value → Option (DataW Unit × List MemPlace) := fun _ => some (.nil, [])
noncomputable def DN (L : List Ent) : DataW Unit := .map (((L.map Ent.e).toArray.toList.map (rg Try.prog 9 RN)).foldr DataW.insert [])
theorem rg_e {x : Ent} (hx : x.key.size ≤ maxLen) : rg Try.prog 9 RN (Ent.e x) = (.string x.key.data.toList, .nil) := by
  unfold rg WideElems.rd RN Ent.e
  rw [key_lit hx]; rfl
theorem MapB.owns {w : World} {b : Nat} {L : List Ent} {clk : Nat} (h : MapB w b L clk) (hL : L.length ≤ 1000) : w.ownsMap Try.prog 9 RN b 1000 (DN L) := by
  refine ⟨(L.map Ent.e).toArray, clk, h.blk, ⟨by simp [maxLen]; omega, ⟨?_, ?_, ?_⟩, ?_⟩, by simpa using hL, rfl⟩
  · intro x hx
    obtain ⟨y, hy, rfl⟩ := List.mem_map.1 (by simpa using hx : x ∈ L.map Ent.e)
    exact h.old y hy
  · have := h.borns
    rw [List.map_map]
    exact this
  · have := h.keys
    rw [List.map_map]
    have e : (fun x : MapEntry => x.key) ∘ Ent.e = (fun k : ByteArray => Value.string k) ∘ (fun x : Ent => x.key) := rfl
    rw [e, ← List.map_map]
    exact List.pairwise_map.2 (this.imp fun hne e => hne (string_inj e))
  · intro x hx
    obtain ⟨y, hy, rfl⟩ := List.mem_map.1 (by simpa using hx : x ∈ L.map Ent.e)
    refine ⟨(.string y.key.data.toList, .nil), ?_⟩
    unfold WideElems.rd RN Ent.e
    rw [key_lit (h.small y hy)]; rfl
theorem keys_DN {L : List Ent} (h : ∀ x ∈ L, x.key.size ≤ maxLen) : (strKeys (DN L)).Perm (L.map fun x => x.key.data.toList) := by
  have e : ((L.map Ent.e).toArray.toList.map (rg Try.prog 9 RN)).map (fun p => strOf p.1) = L.map fun x => x.key.data.toList := by
    rw [List.toList_toArray, List.map_map, List.map_map]
    refine List.map_congr_left fun x hx => ?_
    have := rg_e (h x hx)
    simp only [Function.comp_apply, this, strOf]
  rw [← e]
  unfold DN strKeys
  exact (sorted_perm _).map _
theorem size_DN (L : List Ent) : Maps.size (DN L) = L.length := by
  unfold DN Maps.size
  have := (sorted_perm ((L.map Ent.e).toArray.toList.map (rg Try.prog 9 RN))).length_eq
  rw [List.length_map, List.toList_toArray, List.length_map] at this
  exact this

set_option maxHeartbeats 1000000 in
/-- 'slices.Collect(maps.Keys(m))' -/
theorem collect_names (B mb : Nat) (L : List Ent) (clk : Nat) (w : World) (hB : w.cell? ⟨B, 0, none⟩ = some (.map (some mb))) (hm : MapB w mb L clk) (hL : L.length ≤ 1000) :
    Calls Try.prog 39 #[.func (.func 41) #[] #[.pointer (some ⟨B, 0, none⟩)]] w fun e w' => ∃ (v : Value) (ss : List (List UInt8)), e = .returned v ∧ ss.Perm (L.map fun x => x.key.data.toList) ∧
      w'.ownsRow w.heap.size 9 1 v ss.length (ss.map encStr) ∧ (v = .slice none 0 0 ↔ ss = []) ∧ Below w.heap.size w w' := by
  refine (callsIn_wide (n := 5)).1 ?_
  have hseq : SeqGives Fence.wide 3 Try.prog 41 #[.pointer (some ⟨B, 0, none⟩)] encStr (fun ss => ss.Perm (strKeys (DN L))) (Maps.size (DN L)) w :=
    AnyZ.keys_gives (ρ := Try.keysL_ren) { Try.keysL with } Fence.wide _ trivial rfl (by omega) B mb 1000 (DN L) w (World.block_lt_of_cell? w _ hB) hB (hm.owns hL)
  have hs := size_DN L
  refine (AnyZ.collect_in Try.collectL Fence.wide 5 trivial trivial rfl (by omega) 41 #[.pointer (some ⟨B, 0, none⟩)] trivial (enters_of Try.func41 (by kernel_rfl) rfl) _ _ (by rw [hs]; unfold maxLen; omega) (by rw [hs]; omega) w hseq).mono ?_
  rintro e w' ⟨v, ss, rfl, hS, hrow, hnil, hb⟩
  exact ⟨v, ss, rfl, hS.trans (keys_DN hm.small), hrow, hnil, hb⟩
end Go.Proofs.Ytedpjfanfhhfdaa
