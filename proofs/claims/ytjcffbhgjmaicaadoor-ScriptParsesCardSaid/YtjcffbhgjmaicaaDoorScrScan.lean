/-
  Layer 55 (script): the loop over the kinds' words; strings in rows; numbers of words.
-/
import Derived.Test.YtjcffbhgjmaicaaDoorScrBody
import Derived.Test.YtjcffbhgjmaicaaDoorScrReadP
import Derived.Maps.RangeWalk
namespace Go.Proofs.YtjcffbhgjmaicaaDoor
open Go.RowKit
open Go.ChangeMaps (setBlock)
open Script

theorem shape_entry {e : MapEntry} (h : e ∈ shapeEntries.toList) : ∃ (i : Nat) (x : List UInt8 × Nat), Script.shapes[i]? = some x ∧ e = ⟨.int .i64 ((i : Int) + 1), shapeVal x, i⟩ := by
  unfold shapeEntries at h
  simp only [List.mem_cons, List.not_mem_nil, or_false] at h
  rcases h with rfl | rfl | rfl | rfl | rfl | rfl | rfl | rfl | rfl | rfl | rfl | rfl | rfl
  · exact ⟨0, _, rfl, rfl⟩
  · exact ⟨1, _, rfl, rfl⟩
  · exact ⟨2, _, rfl, rfl⟩
  · exact ⟨3, _, rfl, rfl⟩
  · exact ⟨4, _, rfl, rfl⟩
  · exact ⟨5, _, rfl, rfl⟩
  · exact ⟨6, _, rfl, rfl⟩
  · exact ⟨7, _, rfl, rfl⟩
  · exact ⟨8, _, rfl, rfl⟩
  · exact ⟨9, _, rfl, rfl⟩
  · exact ⟨10, _, rfl, rfl⟩
  · exact ⟨11, _, rfl, rfl⟩
  · exact ⟨12, _, rfl, rfl⟩

theorem shape_old : ∀ x ∈ shapeEntries.toList, x.born < 13 := by
  intro e h
  obtain ⟨i, x, hi, rfl⟩ := shape_entry h
  exact (List.getElem?_eq_some_iff.1 hi).1

theorem shape_nodup : (shapeEntries.toList.map (·.born)).Nodup := by
  have e : shapeEntries.toList.map (·.born) = List.range 13 := by rfl
  rw [e]
  exact List.nodup_range

theorem shape_seen {seen : Array Nat} (h : (leftOf shapeEntries seen).size = 0) (i : Nat) (hi : i < 13) : seen.contains i = true := by
  have h0 : leftOf shapeEntries seen = #[] := Array.eq_empty_of_size_eq_zero h
  unfold leftOf at h0
  rw [Array.filter_eq_empty_iff] at h0
  have hm : ∃ e ∈ shapeEntries, e.born = i := by
    refine ⟨shapeEntries[i]'hi, Array.getElem_mem _, ?_⟩
    match i, hi with
    | 0, _ | 1, _ | 2, _ | 3, _ | 4, _ | 5, _ | 6, _ | 7, _ | 8, _ | 9, _ | 10, _ | 11, _ | 12, _ => rfl
  obtain ⟨e, he, rfl⟩ := hm
  have := h0 e he
  simpa using this

theorem heap_setBlock_at {w : World} {b : Nat} {o : Obj} (hb : w.heap[b]? = some o) (o' : Obj) : (setBlock w b o').heap[b]? = some o' := by
  have hlt : b < w.heap.size := (Array.getElem?_eq_some_iff.1 hb).1
  unfold setBlock
  simp [hlt]
theorem heap_setBlock_ne (w : World) (b : Nat) (o' : Obj) {i : Nat} (h : i ≠ b) : (setBlock w b o').heap[i]? = w.heap[i]? := by
  unfold setBlock
  simp only
  rw [Array.getElem?_setIfInBounds_ne (Ne.symm h)]
theorem size_setBlock (w : World) (b : Nat) (o' : Obj) : (setBlock w b o').heap.size = w.heap.size := by
  unfold setBlock; simp
theorem below_setBlock {B : Nat} {w0 w : World} (h : Below B w0 w) {b : Nat} (hb : B ≤ b) (o : Obj) : Below B w0 (setBlock w b o) :=
  h.trans ⟨rfl, rfl, rfl, by rw [size_setBlock]; exact Nat.le_refl _, fun k hk => heap_setBlock_ne w b o (by omega)⟩

/-- The step of the loop over the kinds' words. -/
theorem wpList_next_shapes {w : World} {ops : Array Oper} {rest : List Oper} {o : Oper} {a : Act} {Q : Exit → Act → World → Prop} (hg : o.guard = none) (it : Operand) (hop : o.op = Op.next it false)
    (r bm c0 : Nat) (seen : Array Nat) (hit : a.eval it = .pointer (some ⟨r, 0, none⟩)) (hr : w.heap[r]? = some (.mapIter (some bm) 13 seen c0)) (hb : w.heap[bm]? = some (.map shapeEntries 13)) (hsc : 13 ≤ c0)
    (hDone : (leftOf shapeEntries seen).size = 0 → wpList Tryd.prog ops Q rest (a.put o.dst (.tuple #[.bool false])) w)
    (hMore : ∀ (i : Nat) (x : List UInt8 × Nat) (w1 : World), Script.shapes[i]? = some x → (leftOf shapeEntries (seen.push i)).size < (leftOf shapeEntries seen).size → (w1 = w ∨ w1 = w.drew) →
      (Instr.entry (.pointer (some ⟨r, 0, none⟩))).run Tryd.prog (setBlock w1 r (.mapIter (some bm) 13 (seen.push i) 13)) = .ok (.tuple #[.int .i64 ((i : Int) + 1), shapeVal x]) (setBlock w1 r (.mapIter (some bm) 13 (seen.push i) 13)) →
      wpList Tryd.prog ops Q rest (a.put o.dst (.tuple #[.bool true, .int .i64 ((i : Int) + 1), shapeVal x])) (setBlock w1 r (.mapIter (some bm) 13 (seen.push i) 13))) :
    wpList Tryd.prog ops Q (o :: rest) a w := by
  have hne : bm ≠ r := by
    rintro rfl
    rw [hr] at hb
    cases hb
  refine wpList_plain hg fun K' hK' => ?_
  unfold Oper.wp
  rcases run_next_at (P := Tryd.prog) w o.type r bm 13 c0 seen shapeEntries 13 hr hb shape_old hsc with ⟨h0, hrun⟩ | ⟨e, he, w1, hw1, hrun⟩
  · simp [execOp, hop, hit, hrun, Result.andThen]
    exact hK' _ _ (hDone h0)
  · have hmem : e ∈ shapeEntries.toList := by
      unfold leftOf at he
      simp only [Array.toList_filter, List.mem_filter] at he
      exact he.1
    have hsh := left_shrinks shapeEntries seen e he
    obtain ⟨i, x, hi, rfl⟩ := shape_entry hmem
    have hr1 : w1.heap[r]? = some (.mapIter (some bm) 13 seen c0) := by rcases hw1 with rfl | rfl <;> exact hr
    have hb1 : w1.heap[bm]? = some (.map shapeEntries 13) := by rcases hw1 with rfl | rfl <;> exact hb
    have hen := run_entry_at (P := Tryd.prog) (setBlock w1 r (.mapIter (some bm) 13 (seen.push i) 13)) r bm 13 seen shapeEntries 13 ⟨.int .i64 ((i : Int) + 1), shapeVal x, i⟩ (heap_setBlock_at hr1 _) (by rw [heap_setBlock_ne _ _ _ hne]; exact hb1) hmem shape_nodup
    simp [execOp, hop, hit, hrun, Result.andThen]
    exact hK' _ _ (hMore i x w1 hi hsh hw1 hen)

/-- What the kind is when these words have been looked at. -/
def kindSeen (w0 : List UInt8) (seen : Array Nat) : Int := if kindOf w0 ≠ 0 ∧ seen.contains (kindOf w0 - 1).toNat = true then kindOf w0 else 0

theorem kindSeen_start (w0 : List UInt8) : kindSeen w0 #[] = 0 := by unfold kindSeen; rw [if_neg]; simp
theorem kindSeen_hit {w0 : List UInt8} {seen : Array Nat} {i : Nat} {x : List UInt8 × Nat} (hi : Script.shapes[i]? = some x) (h : x.1 = w0) : kindSeen w0 (seen.push i) = (i : Int) + 1 := by
  have hlt : i < 13 := (List.getElem?_eq_some_iff.1 hi).1
  have hs : Script.shape ((i : Int) + 1) = some (w0, x.2) := by
    unfold Script.shape
    rw [if_pos (by omega), show ((i : Int) + 1 - 1).toNat = i from by omega, hi, ← h]
  have hk := kindOf_of hs
  unfold kindSeen
  rw [hk, if_pos]
  refine ⟨by omega, ?_⟩
  rw [show ((i : Int) + 1 - 1).toNat = i from by omega]
  simp
theorem kindSeen_miss {w0 : List UInt8} {seen : Array Nat} {i : Nat} {x : List UInt8 × Nat} (hi : Script.shapes[i]? = some x) (h : x.1 ≠ w0) : kindSeen w0 (seen.push i) = kindSeen w0 seen := by
  unfold kindSeen
  by_cases h0 : kindOf w0 = 0
  · simp [h0]
  · have hs := kindOf_shape h0
    have hr := kindOf_range w0
    have hne : (kindOf w0 - 1).toNat ≠ i := by
      rintro rfl
      unfold Script.shape at hs
      rw [if_pos (by omega), hi] at hs
      injection hs with hs
      exact h (by rw [hs])
    have e : (seen.push i).contains (kindOf w0 - 1).toNat = seen.contains (kindOf w0 - 1).toNat := by
      generalize (kindOf w0 - 1).toNat = k at *
      simp [hne]
    rw [e]
theorem kindSeen_end {w0 : List UInt8} {seen : Array Nat} (h : (leftOf shapeEntries seen).size = 0) : kindSeen w0 seen = kindOf w0 := by
  have hr := kindOf_range w0
  unfold kindSeen
  by_cases h0 : kindOf w0 = 0
  · rw [if_neg (by simp [h0]), h0]
  · rw [if_pos ⟨h0, shape_seen h _ (by omega)⟩]

/-- A slice of strings that reads as a list. -/
def Strs (w : World) (a : Option Addr) (l : List ByteArray) : Prop := Row w a (l.map Value.string)
theorem Strs.below {w w' : World} {a : Option Addr} {l : List ByteArray} (h : Strs w a l) (hb : Below w.heap.size w w') : Strs w' a l := Row.below h hb
theorem Strs.at_ {w : World} {a : Option Addr} {l : List ByteArray} (h : Strs w a l) (hl : 0 < l.length) : ∃ b off, a = some ⟨b, off, none⟩ ∧ ∀ (j : Nat) (u : ByteArray), l[j]? = some u → w.cell? ⟨b, off + j, none⟩ = some (.string u) := by
  obtain ⟨b, off, rfl, hc⟩ := h (by simpa using hl)
  exact ⟨b, off, rfl, fun j u hj => hc j (.string u) (by rw [List.getElem?_map, hj]; rfl)⟩

theorem infoStr : (Tryd.prog.info? 9).map (fun i => (i.zero, i.size, i.bytes)) = some (some (.string ⟨#[]⟩), 1, 16) := by kernel_rfl

theorem tail_strs (a : Option Addr) (len cap : Nat) (hcap : len ≤ cap) (_hcap2 : cap ≤ maxLen) (hm : 1 ≤ len) :
    ∃ A, (∀ W : World, (Instr.slice 77 (.slice a len cap) (some (.int .i64 1)) none none).run Tryd.prog W = .ok (.slice A (len - 1) (cap - 1)) W) ∧ ∀ (W : World) (l : List ByteArray), l.length = len → Strs W a l → Strs W A (l.drop 1) := by
  obtain ⟨i0, hi0, hz0, hz1, hz2⟩ := info_parts infoStr
  unfold maxLen at _hcap2
  refine ⟨if cap = 1 then a else a.map (·.add 1), fun W => ?_, fun W l hl ht => ?_⟩
  · simp [Instr.slice, run_underlying Tryd.underlying77, Instr.sliceBounds, Instr.sliceBound, asIntOf, go_sem, hi0, hz1, sizeOf, typeInfo]
    omega
  · by_cases hc : cap = 1
    · rw [List.drop_of_length_le (by omega)]
      exact row_nil W _
    · rw [if_neg hc]
      rcases Nat.eq_zero_or_pos (l.drop 1).length with h0 | h0
      · rw [List.eq_nil_of_length_eq_zero h0]
        exact row_nil W _
      · obtain ⟨b, off, rfl, hcs⟩ := ht.at_ (by simp at h0; omega)
        have hadd : (⟨b, off, none⟩ : Addr).add 1 = ⟨b, off + 1, none⟩ := by unfold Addr.add; split <;> simp_all
        simp only [Option.map_some, hadd]
        refine fun _ => ⟨_, _, rfl, fun j u hj => ?_⟩
        rw [List.getElem?_map, List.getElem?_drop] at hj
        obtain ⟨y, hy, rfl⟩ := Option.map_eq_some_iff.1 hj
        have := hcs (1 + j) y hy
        rw [Nat.add_assoc]
        exact this

/-- How a word's number is told. -/
def NumRes (r : Option Int) (e : Ending) : Prop :=
  match r with
  | some v => e = .returned (.tuple #[.int .i64 v, .nilIface])
  | none => ∃ x t p, e = .returned (.tuple #[.int .i64 x, .iface t p])

theorem atoi_any (b : ByteArray) (w : World) (hs : b.size ≤ 4000000000) (hrd : Ready w) : Calls Tryd.prog 35 #[.string b] w fun e w' => NumRes (numW b.data.toList) e ∧ Below w.heap.size w w' := by
  obtain ⟨-, ⟨t1, p1, h1⟩, ⟨t2, p2, h2⟩, -⟩ := hrd
  cases h : Lib.atoiAll b.data.toList with
  | ok v =>
    refine (Tryd.strconv_Atoi_ok b (by omega) v h w).mono ?_
    rintro e w' ⟨rfl, hw⟩
    refine ⟨?_, ?_⟩
    · unfold NumRes numW
      rw [h]
    · rcases hw with rfl | ⟨t, rfl⟩
      · exact Below.refl _ _
      · exact Lib.bytesWorld_below _ _ _
  | «syntax» =>
    refine (Tryd.strconv_Atoi_syntax b (by omega) h (.iface t1 p1) w h1 (.inr ⟨_, _, rfl⟩)).mono ?_
    rintro e w' ⟨N, rfl, -, -, hb⟩
    refine ⟨?_, hb⟩
    unfold NumRes numW
    rw [h]
    exact ⟨_, _, _, rfl⟩
  | range =>
    refine (Tryd.strconv_Atoi_range b (by omega) h (.iface t2 p2) w h2 (.inr ⟨_, _, rfl⟩)).mono ?_
    rintro e w' ⟨N, rfl, -, -, hb⟩
    refine ⟨?_, hb⟩
    unfold NumRes numW
    rw [h]
    exact ⟨_, _, _, rfl⟩

end Go.Proofs.YtjcffbhgjmaicaaDoor
