/- What the model does at a map from texts to whole numbers: looking up, storing, deleting, ranging, told over the list of the map's entries. -/
import Derived.Test.YtedpjfanfhhfdaaProg
import Derived.Maps.Range
import Derived.Maps.RangeWalk
import Derived.Maps.OwnSet
import Derived.WalkKit
import Derived.KernelRfl
namespace Go.Proofs.Ytedpjfanfhhfdaa
open Go.ChangeMaps Go.MapKept Go.WideShapes
open Go.Maps (Keyed string_keyed)
open Go.WideMaps (keyOf_string_mk)

theorem K9 : Keyed Try.prog 9 := string_keyed Try.underlying9
theorem zero3 (w : World) : (zeroValue 3).run Try.prog w = .ok (.int .i64 0) w := by kernel_rfl

/-- an entry -/
structure Ent where
  key : ByteArray
  val : Int
  born : Nat
def Ent.e (x : Ent) : MapEntry := ⟨.string x.key, .int .i64 x.val, x.born⟩

/-- block b is a map whose entries are L -/
structure MapB (w : World) (b : Nat) (L : List Ent) (clock : Nat) : Prop where
  blk : w.heap[b]? = some (.map (L.map Ent.e).toArray clock)
  old : ∀ x ∈ L, x.born < clock
  borns : (L.map (·.born)).Nodup
  keys : (L.map (·.key)).Nodup
  small : ∀ x ∈ L, x.key.size ≤ maxLen

theorem key_lit {s : ByteArray} (hs : s.size ≤ maxLen) : keyOf Try.prog 9 (.string s) = some (.string s.data.toList) := keyOf_string_mk Try.underlying9 hs

theorem ent_keys {L : List Ent} (h : ∀ x ∈ L, x.key.size ≤ maxLen) : ∀ e ∈ (L.map Ent.e).toArray.toList, ∃ l, keyOf Try.prog 9 e.key = some l := by
  intro e he
  simp only [List.mem_map] at he
  obtain ⟨x, hx, rfl⟩ := he
  exact ⟨_, key_lit (h x hx)⟩

def getE (L : List Ent) (s : ByteArray) : Option Int := (L.find? (fun x => decide (x.key = s))).map (·.val)

theorem string_inj {a b : ByteArray} (h : Value.string a = Value.string b) : a = b := by injection h

theorem find_split {L : List Ent} (w : World) {s : ByteArray} (hs : s.size ≤ maxLen) (hL : ∀ x ∈ L, x.key.size ≤ maxLen) :
    ((Instr.findKey 9 (.string s) (L.map Ent.e)).run Try.prog w = .ok none w ∧ ∀ x ∈ L, x.key ≠ s) ∨
    ∃ (j : Nat) (x : Ent), (Instr.findKey 9 (.string s) (L.map Ent.e)).run Try.prog w = .ok (some (j, .int .i64 x.val)) w ∧ L[j]? = some x ∧ x.key = s := by
  rcases K9.find w (key_lit hs) (L.map Ent.e).toArray.toList (ent_keys hL) with ⟨h1, h2⟩ | ⟨j, e, h1, h2, h3⟩
  · refine .inl ⟨h1, fun x hx e => h2 (Ent.e x) (List.mem_map.2 ⟨x, hx, rfl⟩) (by simp [Ent.e, e])⟩
  · refine .inr ⟨j, ?_⟩
    rw [List.getElem?_map] at h2
    cases hj : L[j]? with
    | none => rw [hj] at h2; cases h2
    | some x =>
      rw [hj] at h2
      obtain rfl : Ent.e x = e := by simpa using h2
      exact ⟨x, h1, rfl, string_inj h3⟩

theorem getE_none {L : List Ent} {s : ByteArray} (h : ∀ x ∈ L, x.key ≠ s) : getE L s = none := by
  unfold getE
  rw [List.find?_eq_none.2 (fun x hx => by simpa using h x hx)]
  rfl

theorem getE_mem {L : List Ent} (hn : (L.map (·.key)).Nodup) {x : Ent} (hx : x ∈ L) : getE L x.key = some x.val := by
  induction L with
  | nil => cases hx
  | cons y r ih =>
    simp only [List.map_cons, List.nodup_cons] at hn
    unfold getE
    rw [List.find?_cons]
    rcases List.mem_cons.1 hx with rfl | hx
    · rw [decide_eq_true rfl]; rfl
    · have hne : y.key ≠ x.key := fun e => hn.1 (by rw [e]; exact List.mem_map.2 ⟨x, hx, rfl⟩)
      rw [decide_eq_false hne]
      exact ih hn.2 hx

/-- 'v, ok := m[s]' -/
theorem MapB.look {w : World} {b : Nat} {L : List Ent} {c : Nat} (h : MapB w b L c) {s : ByteArray} (hs : s.size ≤ maxLen) :
    (Instr.lookup 53 (.map (some b)) (.string s) true).run Try.prog w = .ok (.tuple #[.int .i64 ((getE L s).getD 0), .bool (getE L s).isSome]) w := by
  have hc := K9.check w (L.map Ent.e).toArray.isEmpty (key_lit hs)
  rcases find_split w hs h.small with ⟨h1, h2⟩ | ⟨j, x, h1, h2, rfl⟩
  · rw [getE_none h2]
    simp at hc
    simp [Instr.lookup, run_underlying Try.underlying53, MapKept.run_getObj_map h.blk, hc, h1, Result.andThen]
  · rw [getE_mem h.keys (List.mem_of_getElem? h2)]
    simp at hc
    simp [Instr.lookup, run_underlying Try.underlying53, MapKept.run_getObj_map h.blk, hc, h1, Result.andThen]

/-! ### a store -/
def upd (s : ByteArray) (v : Int) (x : Ent) : Ent := if x.key = s then { x with val := v } else x
def putE (L : List Ent) (c : Nat) (s : ByteArray) (v : Int) : List Ent := if (getE L s).isSome then L.map (upd s v) else L ++ [⟨s, v, c⟩]
def putC (L : List Ent) (c : Nat) (s : ByteArray) : Nat := if (getE L s).isSome then c else c + 1

theorem nodup_idx {L : List Ent} (hn : (L.map (·.key)).Nodup) {i j : Nat} {x y : Ent} (hi : L[i]? = some x) (hj : L[j]? = some y) (h : x.key = y.key) : i = j := by
  have hil : i < (L.map (·.key)).length := by simpa using (List.getElem?_eq_some_iff.1 hi).1
  have hjl : j < (L.map (·.key)).length := by simpa using (List.getElem?_eq_some_iff.1 hj).1
  have e1 : (L.map (·.key))[i]? = some x.key := by simp [hi]
  have e2 : (L.map (·.key))[j]? = some y.key := by simp [hj]
  rw [List.getElem?_eq_getElem hil] at e1
  rw [List.getElem?_eq_getElem hjl] at e2
  have hp := List.pairwise_iff_getElem.1 hn
  rcases Nat.lt_trichotomy i j with hlt | he | hgt
  · exact absurd ((Option.some.inj e1).trans (h.trans (Option.some.inj e2).symm)) (hp i j hil hjl hlt)
  · exact he
  · exact absurd ((Option.some.inj e2).trans (h.symm.trans (Option.some.inj e1).symm)) (hp j i hjl hil hgt)

theorem modify_upd {L : List Ent} (hn : (L.map (·.key)).Nodup) {j : Nat} {x : Ent} (hj : L[j]? = some x) (v : Int) :
    ((L.map Ent.e).toArray.modify j fun e => { e with key := .string x.key, val := .int .i64 v }) = ((L.map (upd x.key v)).map Ent.e).toArray := by
  apply Array.ext'
  rw [Array.toList_modify]
  apply List.ext_getElem?
  intro i
  rw [List.getElem?_modify]
  simp only [List.getElem?_map]
  by_cases h : j = i
  · subst h
    simp [hj, upd, Ent.e]
  · cases hi : L[i]? with
    | none => simp
    | some y =>
      have : y.key ≠ x.key := fun e => h (nodup_idx hn hj hi e.symm)
      simp [h, upd, this]

theorem upd_born (s : ByteArray) (v : Int) (L : List Ent) : (L.map (upd s v)).map (·.born) = L.map (·.born) := by
  rw [List.map_map]
  exact List.map_congr_left (fun x _ => by simp only [Function.comp, upd]; split <;> rfl)
theorem upd_key (s : ByteArray) (v : Int) (L : List Ent) : (L.map (upd s v)).map (·.key) = L.map (·.key) := by
  rw [List.map_map]
  exact List.map_congr_left (fun x _ => by simp only [Function.comp, upd]; split <;> rfl)

theorem getE_some {L : List Ent} {s : ByteArray} (h : (getE L s).isSome = true) : ∃ x ∈ L, x.key = s := by
  unfold getE at h
  simp only [Option.isSome_map, List.find?_isSome, decide_eq_true_eq] at h
  exact h
theorem getE_isSome {L : List Ent} {s : ByteArray} {x : Ent} (hx : x ∈ L) (h : x.key = s) : (getE L s).isSome = true := by
  unfold getE
  simp only [Option.isSome_map, List.find?_isSome, decide_eq_true_eq]
  exact ⟨x, hx, h⟩
theorem getE_isNone {L : List Ent} {s : ByteArray} (h : (getE L s).isSome = false) : ∀ x ∈ L, x.key ≠ s := by
  intro x hx e
  rw [getE_isSome hx e] at h
  cases h

/-- 'm[s] = v' -/
theorem MapB.store {w : World} {b : Nat} {L : List Ent} {c : Nat} (h : MapB w b L c) {s : ByteArray} (hs : s.size ≤ maxLen) (v : Int) :
    (Instr.mapUpdate 53 (.map (some b)) (.string s) (.int .i64 v)).run Try.prog w = .ok () (setBlock w b (.map ((putE L c s v).map Ent.e).toArray (putC L c s))) := by
  have hc := K9.check w false (key_lit hs)
  have hst := K9.stays w (key_lit hs)
  rcases find_split w hs h.small with ⟨h1, h2⟩ | ⟨j, x, h1, h2, rfl⟩
  · have e : (getE L s).isSome = false := by rw [getE_none h2]; rfl
    simp [putE, putC, e, Instr.mapUpdate, run_underlying Try.underlying53, MapKept.run_getObj_map h.blk, hc, h1, MapKept.run_setObj_map _ h.blk, Result.andThen, setBlock, Ent.e]
  · have e : (getE L x.key).isSome = true := getE_isSome (List.mem_of_getElem? h2) rfl
    have hm := modify_upd h.keys h2 v
    have hk : ((L.map Ent.e).toArray[j]?.map (·.key)).getD (.string x.key) = .string x.key := by simp [h2, Ent.e]
    simp only [putE, putC, e, if_true]
    rw [← hm]
    simp at hk
    simp [Instr.mapUpdate, run_underlying Try.underlying53, MapKept.run_getObj_map h.blk, hc, h1, MapKept.run_setObj_map _ h.blk, Result.andThen, setBlock, h2, hst, Ent.e]

theorem MapB.stored {w w' : World} {b : Nat} {L : List Ent} {c : Nat} (h : MapB w b L c) {s : ByteArray} (hs : s.size ≤ maxLen) (v : Int)
    (hb : w'.heap[b]? = some (.map ((putE L c s v).map Ent.e).toArray (putC L c s))) : MapB w' b (putE L c s v) (putC L c s) := by
  refine ⟨hb, ?_, ?_, ?_, ?_⟩ <;> unfold putE <;> (try unfold putC) <;> cases e : (getE L s).isSome <;> simp only [if_true, if_false, Bool.false_eq_true]
  · intro x hx
    rcases List.mem_append.1 hx with hx | hx
    · have := h.old x hx; omega
    · obtain rfl : x = ⟨s, v, c⟩ := by simpa using hx
      exact Nat.lt_succ_self _
  · intro x hx
    obtain ⟨y, hy, rfl⟩ := List.mem_map.1 hx
    have := h.old y hy
    simp only [upd]; split <;> exact this
  · rw [List.map_append, List.nodup_append]
    refine ⟨h.borns, by simp, ?_⟩
    intro a ha b' hb'
    obtain ⟨x, hx, rfl⟩ := List.mem_map.1 ha
    obtain rfl : b' = c := by simpa using hb'
    have := h.old x hx
    omega
  · rw [upd_born]; exact h.borns
  · rw [List.map_append, List.nodup_append]
    refine ⟨h.keys, by simp, ?_⟩
    intro a ha b' hb'
    obtain ⟨x, hx, rfl⟩ := List.mem_map.1 ha
    obtain rfl : b' = s := by simpa using hb'
    exact getE_isNone e x hx
  · rw [upd_key]; exact h.keys
  · intro x hx
    rcases List.mem_append.1 hx with hx | hx
    · exact h.small x hx
    · obtain rfl : x = ⟨s, v, c⟩ := by simpa using hx
      exact hs
  · intro x hx
    obtain ⟨y, hy, rfl⟩ := List.mem_map.1 hx
    have := h.small y hy
    simp only [upd]; split <;> exact this

/-! ### 'delete' -/
def delE (L : List Ent) (s : ByteArray) : List Ent := L.filter fun x => decide (x.key ≠ s)

theorem erase_del {L : List Ent} (hn : (L.map (·.key)).Nodup) : ∀ {j : Nat} {x : Ent}, L[j]? = some x → L.eraseIdx j = delE L x.key := by
  induction L with
  | nil => intro j x h; simp at h
  | cons y r ih =>
    intro j x h
    simp only [List.map_cons, List.nodup_cons] at hn
    unfold delE
    cases j with
    | zero =>
      obtain rfl : y = x := by simpa using h
      rw [List.eraseIdx_cons_zero, List.filter_cons]
      simp only [ne_eq, not_true_eq_false, decide_false, Bool.false_eq_true, if_false]
      rw [List.filter_eq_self.2]
      intro z hz
      simp only [decide_eq_true_eq]
      exact fun e => hn.1 (by rw [← e]; exact List.mem_map.2 ⟨z, hz, rfl⟩)
    | succ j =>
      have h' : r[j]? = some x := by simpa using h
      have hne : y.key ≠ x.key := fun e => hn.1 (by rw [e]; exact List.mem_map.2 ⟨x, List.mem_of_getElem? h', rfl⟩)
      rw [List.eraseIdx_cons_succ, List.filter_cons, if_pos (by simpa using hne), ih hn.2 h']
      rfl

/-- 'delete(m, s)' -/
theorem MapB.drop {w : World} {b : Nat} {L : List Ent} {c : Nat} (h : MapB w b L c) {s : ByteArray} (hs : s.size ≤ maxLen) (ty : TypeId) :
    (Builtin.delete_ #[53, 9] ty #[.map (some b), .string s]).run Try.prog w = .ok (.tuple #[]) (setBlock w b (.map ((delE L s).map Ent.e).toArray c)) := by
  have hc := K9.check w (L.map Ent.e).toArray.isEmpty (key_lit hs)
  simp at hc
  rcases find_split w hs h.small with ⟨h1, h2⟩ | ⟨j, x, h1, h2, rfl⟩
  · have e : delE L s = L := List.filter_eq_self.2 (fun x hx => by simpa using h2 x hx)
    rw [e]
    simp [Builtin.delete_, run_underlying Try.underlying53, MapKept.run_getObj_map h.blk, hc, h1, MapKept.run_setObj_map _ h.blk, Result.andThen, setBlock]
  · have hjl : j < L.length := (List.getElem?_eq_some_iff.1 h2).1
    have e : (L.map Ent.e).toArray.eraseIdxIfInBounds j = ((delE L x.key).map Ent.e).toArray := by
      apply Array.ext'
      unfold Array.eraseIdxIfInBounds
      rw [dif_pos (by simpa using hjl)]
      simp only [Array.toList_eraseIdx]
      rw [← map_eraseIdx, erase_del h.keys h2]
    rw [← e]
    simp [Builtin.delete_, run_underlying Try.underlying53, MapKept.run_getObj_map h.blk, hc, h1, MapKept.run_setObj_map _ h.blk, Result.andThen, setBlock]

theorem MapB.sub {w w' : World} {b : Nat} {L L' : List Ent} {c : Nat} (h : MapB w b L c) (hs : L'.Sublist L) (hb : w'.heap[b]? = some (.map (L'.map Ent.e).toArray c)) : MapB w' b L' c :=
  ⟨hb, fun x hx => h.old x (hs.subset hx), h.borns.sublist (hs.map _), h.keys.sublist (hs.map _), fun x hx => h.small x (hs.subset hx)⟩

end Go.Proofs.Ytedpjfanfhhfdaa
