/-
  Layer 55 (script): the body that numbers tell.
-/
import Derived.Test.YtjcffbhgjmaicaaDoorScrReader
import Derived.Test.YtjcffbhgjmaicaaDoorScrBodyP
import Derived.Handy
import Derived.Deep.RegionLaw
import Derived.Lib.OwnKind
namespace Go.Proofs.YtjcffbhgjmaicaaDoor
open Go.RowKit
open Script

theorem infoPoint : (Tryd.prog.info? 53).map (fun i => (i.zero, i.size, i.bytes)) = some (some (.agg #[.int .i64 0, .int .i64 0, .int .i64 0]), 3, 24) := by kernel_rfl
theorem infoTri : (Tryd.prog.info? 89).map (fun i => (i.zero, i.size, i.bytes)) = some (some (.agg #[.int .i64 0, .int .i64 0, .int .i64 0]), 3, 24) := by kernel_rfl

set_option maxRecDepth 100000 in
theorem run_arrayP (g o c : Nat) : ∀ V : World, (Instr.arrayAt 53 (.slice (some ⟨g, o, none⟩) 3 c)).run Tryd.prog V = .ok (.pointer (some ⟨g, o, none⟩)) V := fun V => by kernel_rfl
set_option maxRecDepth 100000 in
theorem run_arrayT (g o c : Nat) : ∀ V : World, (Instr.arrayAt 89 (.slice (some ⟨g, o, none⟩) 3 c)).run Tryd.prog V = .ok (.pointer (some ⟨g, o, none⟩)) V := fun V => by kernel_rfl

/-- The slice value v owns a row of n elements of three ints each. -/
def OwnT (w : World) (base : Nat) (e : TypeId) (v : Value) (n : Nat) (l : List Int) : Prop := w.ownsRow base e 3 v n (l.map intCell)

theorem OwnT.nil (w : World) (base : Nat) (e : TypeId) : OwnT w base e (.slice none 0 0) 0 [] := World.ownsRow_nil w base _ 3
theorem OwnT.lt {w : World} {base : Nat} {e : TypeId} {v : Value} {n : Nat} {l : List Int} (h : OwnT w base e v n l) : ∀ k, v.ownBlock = some k → base ≤ k ∧ k < w.heap.size := World.ownsRow.lt h
theorem OwnT.below {w w' : World} {base : Nat} {e : TypeId} {v : Value} {n : Nat} {l : List Int} (h : OwnT w base e v n l) (hb : Below w.heap.size w w') : OwnT w' base e v n l := by
  refine World.ownsRow.kept (row := none) h ⟨hb.os, hb.tape, hb.output, hb.size, fun k hk _ => hb.block k hk⟩ ?_
  cases hv : v.ownBlock <;> simp
/-- A store below the row. -/
theorem OwnT.set {w : World} {base : Nat} {e : TypeId} {v : Value} {n : Nat} {l : List Int} (h : OwnT w base e v n l) (R i : Nat) (hR : R < base) (x : Value) : OwnT (w.setCell ⟨R, i, none⟩ x) base e v n l := by
  refine World.ownsRow.kept (row := some R) h ⟨rfl, rfl, rfl, by simp [World.setCell], fun k _ hk => Below.heap_setCell w _ x k (fun e => hk (by rw [e]))⟩ ?_
  cases hv : v.ownBlock with
  | none => exact .inl rfl
  | some k =>
    refine .inr fun e => ?_
    injection e with e
    have := (OwnT.lt h k hv).1
    omega
/-- Another row grows. -/
theorem OwnT.grown {w w' : World} {base base' : Nat} {e e' : TypeId} {v v' : Value} {n n' : Nat} {l l' : List Int} (h : OwnT w base e v n l) (h' : OwnT w base' e' v' n' l') (hne : e ≠ e') (hg : w.grownBy w' v'.ownBlock) : OwnT w' base e v n l := by
  refine World.ownsRow.kept h hg ?_
  cases hv : v.ownBlock with
  | none => exact .inl rfl
  | some k =>
    refine .inr fun ek => ?_
    obtain ⟨c, fz, hc⟩ := Lib.ownsRow_kind h k hv
    obtain ⟨c2, fz2, hc2⟩ := Lib.ownsRow_kind h' k ek.symm
    rw [hc] at hc2
    injection hc2 with hc2
    injection hc2 with _ e2 _
    exact hne e2
theorem OwnT.ints {w : World} {base : Nat} {e : TypeId} {v : Value} {n : Nat} {l : List Int} (h : OwnT w base e v n l) : ∃ a c, v = .slice a n c ∧ n ≤ c ∧ c ≤ maxLen ∧ Ints w a l := by
  obtain ⟨a, c, rfl, h1, h2⟩ := ownsRow_form h
  exact ⟨a, c, rfl, h1, h2, Row.own h⟩

/-- 'append(v, p)' in a region: one element of three ints. -/
theorem step_appendT {w : World} {ops : Array Oper} {o : Oper} {a : Act} {K : Act → World → Prop} {Q : Exit → Act → World → Prop} {E : Prop} (T e : TypeId) (hT : Tryd.prog.underlying T = some (.slice e))
    (hi : (Tryd.prog.info? e).map (fun i => (i.zero, i.size, i.bytes)) = some (some (.agg #[.int .i64 0, .int .i64 0, .int .i64 0]), 3, 24)) (hw : Region.wanted o (yielded ops a.tmps) = true) (s x : Operand)
    (ho : o.op = .call { callee := .builtin .append, args := #[s, x], argTypes := #[T, T] })
    {base : Nat} {v : Value} {n : Nat} {l : List Int} (hs : a.eval s = v) (hown : OwnT w base e v n l)
    {A : Option Addr} {c : Nat} {m : List Int} (hx : a.eval x = .slice A 1 c) (hm : m.length = 3) (ht : Ints w A m)
    (hlen : n ≤ 1000000) (hbase : base ≤ w.heap.size)
    (h : ∀ v' w', OwnT w' base e v' (n + 1) (l ++ m) → w.grownBy w' v.ownBlock → K (a.put o.dst v') w') :
    if Region.wanted o (yielded ops a.tmps) = true then Oper.wp Tryd.prog o a w K Q else E := by
  rw [if_pos hw]
  obtain ⟨i0, hi0, hz0, hz1, hz2⟩ := info_parts hi
  refine wp_append_row w s x _ ho base e i0 _ 3 24 hT hi0 hz0 hz1 hz2 rfl (by omega) v n (l.map intCell) hs hown A 1 c (m.map intCell) hx (by rw [List.length_map, hm]) ht (oneCell_ints m) (by simp only [maxLen]; omega) (by omega) hbase ?_
  intro v' w' h1 h2 _
  refine h v' w' ?_ h2
  unfold OwnT
  rw [List.map_append]
  exact h1

/-- A row of one's own reads the same wherever its blocks are the same. -/
theorem ownsRow_high {w V : World} {base : Nat} {e : TypeId} {size n c : Nat} {a : Option Addr} {l : List Int} (h : w.ownsRow base e size (.slice a n c) n (l.map intCell)) (hV : ∀ k, base ≤ k → k < w.heap.size → V.heap[k]? = w.heap[k]?) : Ints V a l := by
  have hr : Ints w a l := Row.own h
  intro hp
  obtain ⟨b, off, rfl, hc⟩ := hr hp
  have hb := World.ownsRow.lt h b rfl
  exact ⟨b, off, rfl, fun j u hj => (World.cell?_of_block (a := ⟨b, off + j, none⟩) (hV b hb.1 hb.2)).trans (hc j u hj)⟩

/-- What a slice shows, if it shows anything, lies in a block of its own from B on that no string shares. -/
def FreeRow (B : Nat) (V : World) (a : Option Addr) (n : Nat) : Prop := 0 < n → ∃ (g o : Nat) (cs : Array Value) (t : TypeId), a = some ⟨g, o, none⟩ ∧ B ≤ g ∧ V.heap[g]? = some (.cells cs t (0, 0))

theorem FreeRow.mono {B B' : Nat} {V : World} {a : Option Addr} {n : Nat} (h : FreeRow B V a n) (hB : B' ≤ B) : FreeRow B' V a n := by
  intro hn
  obtain ⟨g, o, cs, t, h1, h2, h3⟩ := h hn
  exact ⟨g, o, cs, t, h1, Nat.le_trans hB h2, h3⟩

theorem ownsRow_free {w V : World} {B base : Nat} {e : TypeId} {size n c : Nat} {a : Option Addr} {xs : List Value} (h : w.ownsRow base e size (.slice a n c) n xs) (hV : ∀ k, base ≤ k → k < w.heap.size → V.heap[k]? = w.heap[k]?) (hB : B ≤ base) : FreeRow B V a n := by
  intro hn
  rcases h.2 with ⟨-, h2⟩ | ⟨g, cap, cur, h1, hb, hg, -⟩
  · omega
  · injection h1 with h1 _ _
    exact ⟨g, 0, cur, e, h1, Nat.le_trans hB hb, by rw [hV g hb (Array.getElem?_eq_some_iff.1 hg).1]; exact hg⟩

/-- What a body's reading leaves: a body that lies there, or none. -/
def BodyRes (B : Nat) (w' : World) (l : List Int) (v : Value) : Prop :=
  match Script.bodyOf l with
  | none => v = .tuple #[.agg #[.int .i64 0, .slice none 0 0, .slice none 0 0, .slice none 0 0], .bool false]
  | some b => ∃ ta pa ka tc pc kc, v = .tuple #[bodyV b ta pa ka tc pc kc, .bool true] ∧ ∀ V : World, (∀ k, B ≤ k → k < w'.heap.size → V.heap[k]? = w'.heap[k]?) → BodyAt V b ta pa ka ∧ FreeRow B V pa b.pn ∧ FreeRow B V ka b.k.length

theorem below_drewL {B : Nat} {w w' : World} (h : Below B w w') : ∀ n, Below B w (w'.drewN n)
  | 0 => h
  | n + 1 => (below_drewL h n).drew

theorem reader_new {w W : World} {a : Option Addr} {n c : Nat} {l : List Int} (hn : l.length = n) (hc : n ≤ c) (hc2 : c ≤ maxLen) (h : Ints w a l) (hb : Below w.heap.size w W) :
    ReaderAt w (W.alloc (.cells #[.slice a n c] 103)) W.heap.size l := by
  refine ⟨⟨a, c, ?_, by omega, hc2, h⟩, ?_, hb.size, hb.alloc hb.size _⟩
  · rw [World.cell?_alloc_new, hn]; rfl
  · exact Lib.frozen_of_heap (heap_alloc_self W (.cells #[.slice a n c] 103)) 0

theorem ReaderAt.keep {w0 w w' : World} {R : Nat} {l : List Int} (h : ReaderAt w0 w R l) (hb : w'.heap[R]? = w.heap[R]?) (hl : Below w0.heap.size w0 w') : ReaderAt w0 w' R l := by
  obtain ⟨⟨a, c, h1, h2, h3, h4⟩, h5, h6, -⟩ := h
  exact ⟨⟨a, c, (World.cell?_of_block (a := ⟨R, 0, none⟩) hb).trans h1, h2, h3, h4⟩, (World.frozen?_of_block (a := ⟨R, 0, none⟩) hb).trans h5, h6, hl⟩

theorem drop3 {l : List Int} {j : Nat} (h : 3 ≤ (l.drop (3 * j)).length) : ∃ x y z, (l.drop (3 * j)).take 3 = [x, y, z] ∧ l.take (3 * (j + 1)) = l.take (3 * j) ++ [x, y, z] ∧ (l.drop (3 * j)).drop 3 = l.drop (3 * (j + 1)) := by
  rw [List.length_drop] at h
  have e : l.take (3 * (j + 1)) = l.take (3 * j) ++ (l.drop (3 * j)).take 3 := by
    rw [show 3 * (j + 1) = 3 * j + 3 from by omega, List.take_add]
  have e3 : ((l.drop (3 * j)).take 3).length = 3 := by rw [List.length_take, List.length_drop]; omega
  match hm : (l.drop (3 * j)).take 3, e3 with
  | [x, y, z], _ => exact ⟨x, y, z, rfl, by rw [e, hm], by rw [List.drop_drop]; congr 1⟩

theorem OwnI.set {w : World} {base : Nat} {v : Value} {l : List Int} (h : OwnI w base v l) (R i : Nat) (hR : R < base) (x : Value) : OwnI (w.setCell ⟨R, i, none⟩ x) base v l := by
  refine World.ownsRow.kept (row := some R) h ⟨rfl, rfl, rfl, by simp [World.setCell], fun k _ hk => Below.heap_setCell w _ x k (fun e => hk (by rw [e]))⟩ ?_
  cases hv : v.ownBlock with
  | none => exact .inl rfl
  | some k =>
    refine .inr fun e => ?_
    injection e with e
    have := (OwnI.lt h k hv).1
    omega

/-- slices.Clone of a row of ints. -/
theorem clone_ints (a : Option Addr) (n c : Nat) (l : List Int) (w : World) (hn : l.length = n) (hb : n ≤ 1000000000) (h : Ints w a l) :
    Calls Tryd.prog 41 #[.slice a n c] w fun e w' => ∃ v', e = .returned v' ∧ OwnI w' w.heap.size v' l ∧ Below w.heap.size w w' := by
  rcases a with _ | ad
  · have h0 : l = [] := by
      rcases Nat.eq_zero_or_pos l.length with h0 | h0
      · exact List.eq_nil_of_length_eq_zero h0
      · obtain ⟨b, off, e, _⟩ := h.at_ h0; cases e
    subst h0
    refine (Tryd.slices_Clone_int_nil n c w).mono ?_
    rintro e w' ⟨rfl, rfl⟩
    exact ⟨_, rfl, OwnI.none_, Below.refl _ _⟩
  · rcases Nat.eq_zero_or_pos l.length with h0 | h0
    · have hl : l = [] := List.eq_nil_of_length_eq_zero h0
      subst hl
      obtain rfl : n = 0 := hn.symm
      refine (Tryd.slices_Clone_int_zero ad c w).mono ?_
      rintro e w' ⟨v', rfl, ho, -, hb⟩
      exact ⟨_, rfl, ho, hb⟩
    · obtain ⟨b, off, e, hc⟩ := h.at_ h0
      injection e with e
      subst e
      refine (Tryd.slices_Clone_int b off n c l w (by omega) (by omega) (fun j hj => ?_)).mono ?_
      · rw [hc j (l[j]) (List.getElem?_eq_getElem hj), List.getD_eq_getElem?_getD, List.getElem?_eq_getElem hj]
        rfl
      · rintro e w' ⟨v', rfl, ho, -, hb⟩
        refine ⟨_, rfl, ?_, hb⟩
        rw [List.take_of_length_le (by omega), ← hn] at ho
        exact ho

/-- An empty body's cells. -/
def body0 : Array Value := #[.int .i64 0, .slice none 0 0, .slice none 0 0, .slice none 0 0]

set_option maxRecDepth 100000 in
set_option maxHeartbeats 4000000 in
theorem body_short (a : Option Addr) (n c : Nat) (l : List Int) (w : World) (hn : l.length = n) (hc : n ≤ c) (hc2 : c ≤ maxLen) (h : Ints w a l) (h3 : n < 3) :
    Calls Tryd.prog 36 #[.slice a n c] w fun e w' => ∃ v, e = .returned v ∧ BodyRes w.heap.size w' l v ∧ Below w.heap.size w w' := by
  have hb : Script.bodyOf l = none := bodyOf_short (by omega)
  have hb0 := (Below.refl _ w).alloc (Nat.le_refl _) (.cells body0 48)
  have hr := reader_new hn hc hc2 h hb0
  have HM := Lib.hid (many_any _ l 3 w _ hr (by omega))
  have e3 : decide (3 ≤ l.length) = false := by rw [decide_eq_false_iff_not]; omega
  rw [e3] at HM
  rw [World.size_alloc] at HM
  have HB := Lib.hid hb
  have HE := Lib.hid hr.low
  unfold body0 at *
  clear h hb hr e3 hb0
  go_enter Tryd.func36, Tryd.ntmps36
  go_wp2_with fail
  refine HM.out.mono ?_
  rintro e w' ⟨rfl, rfl⟩
  go_wp2_with fail
  go_returns
  refine ⟨_, rfl, ?_, HE.out⟩
  unfold BodyRes
  rw [HB.out]

/-- The second loop's relation. -/
def TriRel (w W : World) (v : Int) (vn tn : Nat) (P : Value) (r r2 : List Int) (i : Value) (wr : World) : Prop :=
  ∃ m : Nat, m ≤ tn ∧ i = .int .i64 m ∧ ReaderAt w wr (w.heap.size + 1) (r2.drop (3 * m)) ∧ Below (w.heap.size + 1) W wr ∧ W.heap.size < wr.heap.size ∧ (∃ T, wr.heap[W.heap.size]? = some (.cells #[.int .i64 v, T, P, .slice none 0 0] 48 (0, 0)) ∧ OwnT wr (W.heap.size + 1) 89 T m (r2.take (3 * m))) ∧ OwnT wr (W.heap.size + 1) 53 P vn (r.take (3 * vn))

set_option maxRecDepth 100000 in
set_option maxHeartbeats 4000000 in
theorem body_long (a : Option Addr) (c : Nat) (v t k : Int) (r : List Int) (w : World) (hc : r.length + 3 ≤ c) (hc2 : c ≤ maxLen) (h : Ints w a (v :: t :: k :: r)) :
    Calls Tryd.prog 36 #[.slice a (r.length + 3) c] w fun e w' => ∃ x, e = .returned x ∧ BodyRes w.heap.size w' (v :: t :: k :: r) x ∧ Below w.heap.size w w' := by
  have hb0 := (Below.refl _ w).alloc (Nat.le_refl _) (.cells body0 48)
  have hr := reader_new (show (v :: t :: k :: r).length = r.length + 3 from rfl) hc hc2 h hb0
  have HM := Lib.hid (many_any _ (v :: t :: k :: r) 3 w _ hr (by omega))
  have e3 : decide (3 ≤ (v :: t :: k :: r).length) = true := by rw [decide_eq_true_iff]; simp
  rw [e3] at HM
  have HT := Lib.hid (take_any _ (v :: t :: k :: r) 3 w _ hr (by simp))
  rw [World.size_alloc] at HM HT
  have HE := Lib.hid hr.low
  unfold body0 at *
  clear h hr e3 hb0
  go_enter Tryd.func36, Tryd.ntmps36
  go_wp2_with fail
  refine HM.out.mono ?_
  rintro e w' ⟨rfl, rfl⟩
  go_wp2_with fail
  refine HT.out.mono ?_
  rintro e w1 ⟨a1, c1, rfl, hc1, hi1, hr1, v1, hw1⟩
  have hr1' : ReaderAt w w1 (w.heap.size + 1) r := hr1
  obtain ⟨b1, o1, rfl, hcs⟩ := hi1.at_ (by simp)
  have HR1 := Lib.hid hr1'
  have HE1 := Lib.hid (hr1'.low)
  have hb0 := (Below.refl _ w).alloc (Nat.le_refl _) (.cells #[.int .i64 0, .slice none 0 0, .slice none 0 0, .slice none 0 0] 48)
  have HBW : Hid (Below (w.heap.size + 1) (w.alloc (.cells #[.int .i64 0, .slice none 0 0, .slice none 0 0, .slice none 0 0] 48)) w1) := by
    show Below _ _ _
    rw [hw1]
    have h := ((Below.refl (w.heap.size + 1) (w.alloc (.cells #[.int .i64 0, .slice none 0 0, .slice none 0 0, .slice none 0 0] 48))).alloc (by rw [World.size_alloc]; exact Nat.le_refl _) (.cells #[.slice a (r.length + 3) c] 103))
    exact h.setCell (p := ⟨w.heap.size + 1, 0, none⟩) (Nat.le_refl _) _
  have g0 := (HE1.out.cell (p := ⟨b1, o1 + 0, none⟩) (lt_of_cell (hcs 0 v rfl))).trans (hcs 0 v rfl)
  have g1 := (HE1.out.cell (p := ⟨b1, o1 + 1, none⟩) (lt_of_cell (hcs 1 t rfl))).trans (hcs 1 t rfl)
  have g2 := (HE1.out.cell (p := ⟨b1, o1 + 2, none⟩) (lt_of_cell (hcs 2 k rfl))).trans (hcs 2 k rfl)
  rw [Nat.add_zero] at g0
  clear hcs hi1 hr1 hr1' HM HT hw1 hb0 HE
  go_wp2_with fail
  go_quiet (fail)
  refine k_at (K := _) ?_
  intro W hW
  have HR := Lib.hid (show ReaderAt w W (w.heap.size + 1) r by rw [hW]; exact ⟨HR1.out.cell, HR1.out.free, HR1.out.high, below_drewL HR1.out.low _⟩)
  have HBK : Hid (∀ V, Below (w.heap.size + 1) W V → V.heap[w.heap.size]? = some (.cells #[.int .i64 0, .slice none 0 0, .slice none 0 0, .slice none 0 0] 48 (0, 0))) := by
    intro V hV
    have h0 : (w.alloc (.cells #[.int .i64 0, .slice none 0 0, .slice none 0 0, .slice none 0 0] 48)).heap[w.heap.size]? = some (.cells #[.int .i64 0, .slice none 0 0, .slice none 0 0, .slice none 0 0] 48 (0, 0)) := heap_alloc_new _ _
    rw [hW] at hV
    exact ((below_drewL HBW.out _).trans hV).block _ (Nat.lt_succ_self _) |>.trans h0
  have HE := Lib.hid HR.out.low
  clear HR1 HE1 HBW g0 g1 g2 hW
  obtain ⟨ra, rc, hrc, hrl, hrm, hri⟩ := HR.out.cell
  have HRI := Lib.hid hri
  clear hri
  cases hh : headOk v t k r.length with
  | false =>
    have HRES : Hid (Script.bodyOf (v :: t :: k :: r) = none) := by show _ = _; unfold bodyOf; simp only; rw [hh]; rfl
    have hd : v < 0 ∨ (0 ≤ v ∧ 4096 < v) ∨ (0 ≤ v ∧ v ≤ 4096 ∧ t < 0) ∨ (0 ≤ v ∧ v ≤ 4096 ∧ 0 ≤ t ∧ 8192 < t) ∨ (0 ≤ v ∧ v ≤ 4096 ∧ 0 ≤ t ∧ t ≤ 8192 ∧ k < 0) ∨ (0 ≤ v ∧ v ≤ 4096 ∧ 0 ≤ t ∧ t ≤ 8192 ∧ 0 ≤ k ∧ 24576 < k) ∨ (0 ≤ v ∧ v ≤ 4096 ∧ 0 ≤ t ∧ t ≤ 8192 ∧ 0 ≤ k ∧ k ≤ 24576 ∧ (r.length : Int) ≠ 3 * v + 3 * t + k) := by
      by_cases p1 : v < 0
      · exact .inl p1
      by_cases p2 : 4096 < v
      · exact .inr (.inl ⟨by omega, p2⟩)
      by_cases p3 : t < 0
      · exact .inr (.inr (.inl ⟨by omega, by omega, p3⟩))
      by_cases p4 : 8192 < t
      · exact .inr (.inr (.inr (.inl ⟨by omega, by omega, by omega, p4⟩)))
      by_cases p5 : k < 0
      · exact .inr (.inr (.inr (.inr (.inl ⟨by omega, by omega, by omega, by omega, p5⟩))))
      by_cases p6 : 24576 < k
      · exact .inr (.inr (.inr (.inr (.inr (.inl ⟨by omega, by omega, by omega, by omega, by omega, p6⟩)))))
      · refine .inr (.inr (.inr (.inr (.inr (.inr ⟨by omega, by omega, by omega, by omega, by omega, by omega, fun e => ?_⟩)))))
        have : headOk v t k r.length = true := by
          unfold headOk
          simp only [Bool.and_eq_true, decide_eq_true_iff]
          omega
        rw [this] at hh
        cases hh
    generalize r.length = q at *
    clear hh
    have hbk := HBK.out W (Below.refl _ _)
    have d0 : W.cell? ⟨w.heap.size, 0, none⟩ = some (.int .i64 0) := by rw [Lib.cell_of_heap hbk]; rfl
    have d1 : W.cell? ⟨w.heap.size, 1, none⟩ = some (.slice none 0 0) := by rw [Lib.cell_of_heap hbk]; rfl
    have d2 : W.cell? ⟨w.heap.size, 2, none⟩ = some (.slice none 0 0) := by rw [Lib.cell_of_heap hbk]; rfl
    have d3 : W.cell? ⟨w.heap.size, 3, none⟩ = some (.slice none 0 0) := by rw [Lib.cell_of_heap hbk]; rfl
    have f0 : W.frozen? ⟨w.heap.size, 0, none⟩ = false := Lib.frozen_of_heap hbk 0
    have f1 : W.frozen? ⟨w.heap.size, 1, none⟩ = false := Lib.frozen_of_heap hbk 1
    have f2 : W.frozen? ⟨w.heap.size, 2, none⟩ = false := Lib.frozen_of_heap hbk 2
    have f3 : W.frozen? ⟨w.heap.size, 3, none⟩ = false := Lib.frozen_of_heap hbk 3
    have HFIN := Lib.hid ((((HE.out.setCell (p := ⟨w.heap.size, 0, none⟩) (Nat.le_refl _) (.int .i64 0)).setCell (p := ⟨w.heap.size, 1, none⟩) (Nat.le_refl _) (.slice none 0 0)).setCell (p := ⟨w.heap.size, 2, none⟩) (Nat.le_refl _) (.slice none 0 0)).setCell (p := ⟨w.heap.size, 3, none⟩) (Nat.le_refl _) (.slice none 0 0))
    clear hbk
    rcases hd with p1 | ⟨p1, p2⟩ | ⟨p1, p2, p3⟩ | ⟨p1, p2, p3, p4⟩ | ⟨p1, p2, p3, p4, p5⟩ | ⟨p1, p2, p3, p4, p5, p6⟩ | ⟨p1, p2, p3, p4, p5, p6, p7⟩
    case' inr.inr.inr.inr.inr.inr =>
      have e7 : ((q : Int) != 3 * v + 3 * t + k) = true := by rw [bne_iff_ne]; exact p7
    all_goals
      go_wp2_with fail
      (try simp only [Exit.inBlock, Exit.then])
      refine bodyPost_ret (by simp [results, Tryd.results36, go_sem, d0, d1, d2, d3]; try rfl) rfl ?_
      refine ⟨_, rfl, ?_, HFIN.out⟩
      unfold BodyRes
      rw [HRES.out]
  | true =>
    have hq := headOk_true hh
    obtain ⟨q1, q2, q3, q4, q5, q6, q7⟩ := hq
    obtain ⟨vn, rfl⟩ := Int.eq_ofNat_of_zero_le q1
    obtain ⟨tn, rfl⟩ := Int.eq_ofNat_of_zero_le q3
    obtain ⟨kn, rfl⟩ := Int.eq_ofNat_of_zero_le q5
    have HRES : Hid (Script.bodyOf ((vn : Int) :: (tn : Int) :: (kn : Int) :: r) = some (bodyTold vn tn r)) := by show _ = _; unfold bodyOf; simp only; rw [hh]; rfl
    have e7 : ((r.length : Int) != 3 * (vn : Int) + 3 * (tn : Int) + (kn : Int)) = false := by rw [bne_eq_false_iff_eq]; exact q7
    have HQ7 := Lib.hid q7
    clear hh q7
    generalize hrq : r.length = q at *
    have HRW : Hid (w.heap.size + 1 < W.heap.size) := lt_of_cell hrc
    have HRQ := Lib.hid hrq
    have HXB : Hid ((W.alloc (.cells #[.int .i64 (vn : Int), .slice none 0 0, .slice none 0 0, .slice none 0 0] 48)).heap[W.heap.size]? = some (.cells #[.int .i64 (vn : Int), .slice none 0 0, .slice none 0 0, .slice none 0 0] 48 (0, 0))) := heap_alloc_new _ _
    have HBA := Lib.hid ((Below.refl W.heap.size W).alloc (Nat.le_refl _) (.cells #[.int .i64 (vn : Int), .slice none 0 0, .slice none 0 0, .slice none 0 0] 48))
    clear hrq
    go_wp2_with fail
    clear hrc
    go_loopw [70] (fun i wr => ∃ j : Nat, j ≤ vn ∧ i = .int .i64 j ∧ ReaderAt w wr (w.heap.size + 1) (r.drop (3 * j)) ∧ Below (w.heap.size + 1) W wr ∧ W.heap.size < wr.heap.size ∧ ∃ P, wr.heap[W.heap.size]? = some (.cells #[.int .i64 (vn : Int), .slice none 0 0, P, .slice none 0 0] 48 (0, 0)) ∧ OwnT wr (W.heap.size + 1) 53 P j (r.take (3 * j))) (fun i _ => vn - (intOf i).toNat)
    case atStart =>
      refine ⟨0, by omega, rfl, ?_, HBA.out.mono (Nat.le_of_lt HRW.out), by simp, _, HXB.out, OwnT.nil _ _ _⟩
      exact HR.out.keep (heap_alloc_old _ _ (by have := HRW.out; omega)) (HE.out.trans (HBA.out.mono HE.out.size))
    case round =>
      obtain ⟨j, hj, rfl, hrd, hbw, hsz, P, hX, hP⟩ := hrel
      by_cases hjv : j < vn
      · have hrl3 : 3 ≤ (r.drop (3 * j)).length := by have := HQ7.out; rw [List.length_drop, HRQ.out]; omega
        have HTK := Lib.hid (take_any (w.heap.size + 1) (r.drop (3 * j)) 3 w wr.drew ⟨hrd.cell, hrd.free, hrd.high, hrd.low.drew⟩ hrl3)
        have HHX := Lib.hid hX
        have HP := Lib.hid hP
        have HBW := Lib.hid hbw
        have hXR : W.heap.size ≠ w.heap.size + 1 := by have := HRW.out; omega
        clear hrd hbw hX hP
        obtain ⟨x, y, z, hd1, hd2, hd3⟩ := drop3 hrl3
        have HD2 := Lib.hid hd2
        rw [hd1, hd3] at HTK
        have HKB := Lib.hid (fun k hk => (HP.out.lt k hk).1)
        clear hrl3 hd1 hd2 hd3
        have hX0 : wr.drew.heap[W.heap.size]? = some (.cells #[.int .i64 (vn : Int), .slice none 0 0, P, .slice none 0 0] 48 (0, 0)) := HHX.out
        go_wp2_with fail
        have px0 : wr.cell? ⟨W.heap.size, 2, none⟩ = some P := by rw [Lib.cell_of_heap HHX.out]; rfl
        go_region_law
          (first
            | (go_simp; go_at_call 57; refine HTK.out.mono ?_; rintro e w2 ⟨a2, c2, rfl, hc2, hi2, hr2, v2, hw2⟩
               obtain ⟨b2, o2, rfl, hcs2⟩ := hi2.at_ (by simp)
               have k0 := (hr2.low.cell (p := ⟨b2, o2 + 0, none⟩) (lt_of_cell (hcs2 0 x rfl))).trans (hcs2 0 x rfl)
               have k1 := (hr2.low.cell (p := ⟨b2, o2 + 1, none⟩) (lt_of_cell (hcs2 1 y rfl))).trans (hcs2 1 y rfl)
               have k2 := (hr2.low.cell (p := ⟨b2, o2 + 2, none⟩) (lt_of_cell (hcs2 2 z rfl))).trans (hcs2 2 z rfl)
               rw [Nat.add_zero] at k0
               have hat := run_arrayP b2 o2 c2
               have hX2 : w2.heap[W.heap.size]? = some (.cells #[.int .i64 (vn : Int), .slice none 0 0, P, .slice none 0 0] 48 (0, 0)) := by rw [hw2, Below.heap_setCell _ _ _ _ hXR]; exact HHX.out
               have px2 : w2.cell? ⟨W.heap.size, 2, none⟩ = some P := by rw [Lib.cell_of_heap hX2]; rfl
               have HP2 := Lib.hid (show OwnT w2 (W.heap.size + 1) 53 P j (r.take (3 * j)) by rw [hw2]; exact OwnT.set (w := wr.drew) HP.out (w.heap.size + 1) 0 (by have := HRW.out; omega) _)
               have HB2 := Lib.hid (show Below (w.heap.size + 1) W w2 by rw [hw2]; exact HBW.out.drew.setCell (p := ⟨w.heap.size + 1, 0, none⟩) (Nat.le_refl _) _)
               have HS2 := Lib.hid (show W.heap.size < w2.heap.size by rw [hw2, World.size_setCell]; exact hsz)
               have HR2 := Lib.hid hr2
               have hX3 : (w2.alloc (.cells #[.int .i64 x, .int .i64 y, .int .i64 z] 53)).heap[W.heap.size]? = some (.cells #[.int .i64 (vn : Int), .slice none 0 0, P, .slice none 0 0] 48 (0, 0)) := (heap_alloc_old _ _ HS2.out).trans hX2
               have px3 : (w2.alloc (.cells #[.int .i64 x, .int .i64 y, .int .i64 z] 53)).cell? ⟨W.heap.size, 2, none⟩ = some P := by rw [Lib.cell_of_heap hX3]; rfl
               clear hw2 hi2 hr2 hcs2)
            | (refine step_appendT 45 53 Tryd.underlying45 infoPoint (by rfl) _ _ (by rfl) (by rfl) (HP2.out.below ((Below.refl _ _).alloc (Nat.le_refl _) _)) (by rfl) (by rfl) (ints_new3 w2 _ x y z) (by omega) (by rw [World.size_alloc]; have := HS2.out; omega) ?_
               intro v6 w6 h6 hg6
               have hX6 : w6.heap[W.heap.size]? = some (.cells #[.int .i64 (vn : Int), .slice none 0 0, P, .slice none 0 0] 48 (0, 0)) := (hg6.block _ (by rw [World.size_alloc]; have := HS2.out; omega) (fun e => by have := HKB.out _ e.symm; omega)).trans hX3
               have px6 : w6.cell? ⟨W.heap.size, 2, none⟩ = some P := by rw [Lib.cell_of_heap hX6]; rfl
               have hf6 : w6.frozen? ⟨W.heap.size, 2, none⟩ = false := Lib.frozen_of_heap hX6 2
               have HB6 := Lib.hid ((HB2.out.alloc (by have := HS2.out; have := HRW.out; omega) (.cells #[.int .i64 x, .int .i64 y, .int .i64 z] 53)).grown hg6 (by rw [World.size_alloc]; have := HS2.out; have := HRW.out; omega) (fun b hb => by have := HKB.out _ hb; have := HRW.out; omega))
               have HR6 := Lib.hid (HR2.out.keep (w' := w6) ((hg6.block _ (by rw [World.size_alloc]; have := HS2.out; have := HRW.out; omega) (fun e => by have := HKB.out _ e.symm; have := HRW.out; omega)).trans (heap_alloc_old _ _ (by have := HS2.out; have := HRW.out; omega))) (HE.out.trans (HB6.out.mono (Nat.le_succ _))))
               have HS6 := Lib.hid (show W.heap.size < w6.heap.size by have h1 := hg6.size; rw [World.size_alloc] at h1; have := HS2.out; omega)
               rw [← HD2.out] at h6
               have H6 := Lib.hid h6
               have HX6 := Lib.hid hX6
               obtain ⟨a6, c6, rfl, -, -, -⟩ := h6.ints))
        all_goals
          go_wp2_with fail
          go_roundw
          case rel =>
            refine ⟨j + 1, by omega, by go_num, ?_, ?_, ?_, .slice a6 (j + 1) c6, ?_, ?_⟩
            · exact HR6.out.keep (Below.heap_setCell _ _ _ _ (Ne.symm hXR)) (HR6.out.low.setCell (p := ⟨W.heap.size, 2, none⟩) (by have := HRW.out; show _ ≤ W.heap.size; omega) _)
            · exact HB6.out.setCell (p := ⟨W.heap.size, 2, none⟩) (by have := HRW.out; show _ ≤ W.heap.size; omega) _
            · rw [World.size_setCell]; exact HS6.out
            · exact (Lib.heap_setCell_same HX6.out _).trans rfl
            · exact H6.out.set W.heap.size 2 (Nat.lt_succ_self _) _
          case measure => simp [intOf]; omega
      · obtain rfl : vn = j := by omega
        clear HBA HXB
        have HR2L : Hid ((r.drop (3 * vn)).length = 3 * tn + kn) := by have := HQ7.out; show _ = _; rw [List.length_drop, HRQ.out]; omega
        have HR2D : Hid (r.drop (3 * vn + 3 * tn) = (r.drop (3 * vn)).drop (3 * tn)) := by show _ = _; rw [List.drop_drop]
        have HTD : Hid ((bodyTold vn tn r).t = (r.drop (3 * vn)).take (3 * tn)) := by show _ = _; rfl
        generalize r.drop (3 * vn) = r2 at *
        have HRD := Lib.hid hrd
        have HBW := Lib.hid hbw
        have HSZ := Lib.hid hsz
        have HX := Lib.hid hX
        have HP := Lib.hid hP
        clear hrd hbw hsz hX hP hj hjv
        go_wp2_with fail
        go_loopw [83] (fun i wr => TriRel w W vn vn tn P r r2 i wr) (fun i _ => tn - (intOf i).toNat)
        case atStart =>
          exact ⟨0, by omega, rfl, HRD.out, HBW.out, HSZ.out, ⟨_, HX.out, OwnT.nil _ _ _⟩, HP.out⟩
        case round =>
          clear HRD HBW HSZ HX HP
          unfold TriRel at hrel
          obtain ⟨m, hm, rfl, hrd, hbw, hsz, ⟨T, hX, hT⟩, hP⟩ := hrel
          by_cases hmt : m < tn
          · have hrl3 : 3 ≤ (r2.drop (3 * m)).length := by rw [List.length_drop, HR2L.out]; omega
            have HTK := Lib.hid (take_any (w.heap.size + 1) (r2.drop (3 * m)) 3 w wr.drew ⟨hrd.cell, hrd.free, hrd.high, hrd.low.drew⟩ hrl3)
            have HHX := Lib.hid hX
            have HT := Lib.hid hT
            have HP := Lib.hid hP
            have HBW := Lib.hid hbw
            have hXR : W.heap.size ≠ w.heap.size + 1 := by have := HRW.out; omega
            clear hrd hbw hX hP hT
            obtain ⟨x, y, z, hd1, hd2, hd3⟩ := drop3 hrl3
            have HD2 := Lib.hid hd2
            rw [hd1, hd3] at HTK
            have HKB := Lib.hid (fun k hk => (HT.out.lt k hk).1)
            clear hrl3 hd1 hd2 hd3
            have hX0 : wr.drew.heap[W.heap.size]? = some (.cells #[.int .i64 (vn : Int), T, P, .slice none 0 0] 48 (0, 0)) := HHX.out
            go_wp2_with fail
            have px0 : wr.cell? ⟨W.heap.size, 1, none⟩ = some T := by rw [Lib.cell_of_heap HHX.out]; rfl
            go_region_law
              (first
                | (go_simp; go_at_call 57; refine HTK.out.mono ?_; rintro e w2 ⟨a2, c2, rfl, hc2, hi2, hr2, v2, hw2⟩
                   obtain ⟨b2, o2, rfl, hcs2⟩ := hi2.at_ (by simp)
                   have k0 := (hr2.low.cell (p := ⟨b2, o2 + 0, none⟩) (lt_of_cell (hcs2 0 x rfl))).trans (hcs2 0 x rfl)
                   have k1 := (hr2.low.cell (p := ⟨b2, o2 + 1, none⟩) (lt_of_cell (hcs2 1 y rfl))).trans (hcs2 1 y rfl)
                   have k2 := (hr2.low.cell (p := ⟨b2, o2 + 2, none⟩) (lt_of_cell (hcs2 2 z rfl))).trans (hcs2 2 z rfl)
                   rw [Nat.add_zero] at k0
                   have hat := run_arrayT b2 o2 c2
                   have hX2 : w2.heap[W.heap.size]? = some (.cells #[.int .i64 (vn : Int), T, P, .slice none 0 0] 48 (0, 0)) := by rw [hw2, Below.heap_setCell _ _ _ _ hXR]; exact HHX.out
                   have px2 : w2.cell? ⟨W.heap.size, 1, none⟩ = some T := by rw [Lib.cell_of_heap hX2]; rfl
                   have HT2 := Lib.hid (show OwnT w2 (W.heap.size + 1) 89 T m (r2.take (3 * m)) by rw [hw2]; exact OwnT.set (w := wr.drew) HT.out (w.heap.size + 1) 0 (by have := HRW.out; omega) _)
                   have HP2 := Lib.hid (show OwnT w2 (W.heap.size + 1) 53 P vn (r.take (3 * vn)) by rw [hw2]; exact OwnT.set (w := wr.drew) HP.out (w.heap.size + 1) 0 (by have := HRW.out; omega) _)
                   have HB2 := Lib.hid (show Below (w.heap.size + 1) W w2 by rw [hw2]; exact HBW.out.drew.setCell (p := ⟨w.heap.size + 1, 0, none⟩) (Nat.le_refl _) _)
                   have HS2 := Lib.hid (show W.heap.size < w2.heap.size by rw [hw2, World.size_setCell]; exact hsz)
                   have HR2 := Lib.hid hr2
                   have hX3 : (w2.alloc (.cells #[.int .i64 x, .int .i64 y, .int .i64 z] 89)).heap[W.heap.size]? = some (.cells #[.int .i64 (vn : Int), T, P, .slice none 0 0] 48 (0, 0)) := (heap_alloc_old _ _ HS2.out).trans hX2
                   have px3 : (w2.alloc (.cells #[.int .i64 x, .int .i64 y, .int .i64 z] 89)).cell? ⟨W.heap.size, 1, none⟩ = some T := by rw [Lib.cell_of_heap hX3]; rfl
                   clear hw2 hi2 hr2 hcs2)
                | (refine step_appendT 42 89 Tryd.underlying42 infoTri (by rfl) _ _ (by rfl) (by rfl) (HT2.out.below ((Below.refl _ _).alloc (Nat.le_refl _) _)) (by rfl) (by rfl) (ints_new3 w2 _ x y z) (by omega) (by rw [World.size_alloc]; have := HS2.out; omega) ?_
                   intro v6 w6 h6 hg6
                   have hX6 : w6.heap[W.heap.size]? = some (.cells #[.int .i64 (vn : Int), T, P, .slice none 0 0] 48 (0, 0)) := (hg6.block _ (by rw [World.size_alloc]; have := HS2.out; omega) (fun e => by have := HKB.out _ e.symm; omega)).trans hX3
                   have px6 : w6.cell? ⟨W.heap.size, 1, none⟩ = some T := by rw [Lib.cell_of_heap hX6]; rfl
                   have hf6 : w6.frozen? ⟨W.heap.size, 1, none⟩ = false := Lib.frozen_of_heap hX6 1
                   have HB6 := Lib.hid ((HB2.out.alloc (by have := HS2.out; have := HRW.out; omega) (.cells #[.int .i64 x, .int .i64 y, .int .i64 z] 89)).grown hg6 (by rw [World.size_alloc]; have := HS2.out; have := HRW.out; omega) (fun b hb => by have := HKB.out _ hb; have := HRW.out; omega))
                   have HR6 := Lib.hid (HR2.out.keep (w' := w6) ((hg6.block _ (by rw [World.size_alloc]; have := HS2.out; have := HRW.out; omega) (fun e => by have := HKB.out _ e.symm; have := HRW.out; omega)).trans (heap_alloc_old _ _ (by have := HS2.out; have := HRW.out; omega))) (HE.out.trans (HB6.out.mono (Nat.le_succ _))))
                   have HS6 := Lib.hid (show W.heap.size < w6.heap.size by have h1 := hg6.size; rw [World.size_alloc] at h1; have := HS2.out; omega)
                   have HP6 := Lib.hid ((HP2.out.below ((Below.refl _ _).alloc (Nat.le_refl _) _)).grown (HT2.out.below ((Below.refl _ _).alloc (Nat.le_refl _) _)) (by decide) hg6)
                   rw [← HD2.out] at h6
                   have H6 := Lib.hid h6
                   have HX6 := Lib.hid hX6
                   obtain ⟨a6, c6, rfl, -, -, -⟩ := h6.ints))
            all_goals
              go_wp2_with fail
              go_roundw
              case rel =>
                unfold TriRel
                refine ⟨m + 1, by omega, by go_num, ?_, ?_, ?_, ⟨.slice a6 (m + 1) c6, ?_, ?_⟩, ?_⟩
                · exact HR6.out.keep (Below.heap_setCell _ _ _ _ (Ne.symm hXR)) (HR6.out.low.setCell (p := ⟨W.heap.size, 1, none⟩) (by have := HRW.out; show _ ≤ W.heap.size; omega) _)
                · exact HB6.out.setCell (p := ⟨W.heap.size, 1, none⟩) (by have := HRW.out; show _ ≤ W.heap.size; omega) _
                · rw [World.size_setCell]; exact HS6.out
                · exact (Lib.heap_setCell_same HX6.out _).trans rfl
                · exact H6.out.set W.heap.size 1 (Nat.lt_succ_self _) _
                · exact HP6.out.set W.heap.size 1 (Nat.lt_succ_self _) _
              case measure => simp [intOf]; omega
          · obtain rfl : tn = m := by omega
            have hrl4 : (r2.drop (3 * tn)).length = kn := by rw [List.length_drop, HR2L.out]; omega
            rw [← HR2D.out] at hrl4 hrd
            have HTK := Lib.hid (take_any (w.heap.size + 1) (r.drop (3 * vn + 3 * tn)) kn w wr hrd (by omega))
            rw [List.take_of_length_le (by omega)] at HTK
            have HKD : Hid ((bodyTold vn tn r).k = r.drop (3 * vn + 3 * tn)) := by show _ = _; rfl
            generalize r.drop (3 * vn + 3 * tn) = KL at *
            have HKL := Lib.hid hrl4
            have HHX := Lib.hid hX
            have HT := Lib.hid hT
            have HP := Lib.hid hP
            have HBW := Lib.hid hbw
            have HSZ := Lib.hid hsz
            have hXR : W.heap.size ≠ w.heap.size + 1 := by have := HRW.out; omega
            clear hrd hbw hsz hX hP hT hrl4 hm hmt
            go_wp2_with fail
            refine HTK.out.mono ?_
            rintro e w2 ⟨a2, c2, rfl, hc2, hi2, hr2, v2, hw2⟩
            have hX2 : w2.heap[W.heap.size]? = some (.cells #[.int .i64 (vn : Int), T, P, .slice none 0 0] 48 (0, 0)) := by rw [hw2, Below.heap_setCell _ _ _ _ hXR]; exact HHX.out
            have HT2 := Lib.hid (show OwnT w2 (W.heap.size + 1) 89 T tn (r2.take (3 * tn)) by rw [hw2]; exact OwnT.set HT.out (w.heap.size + 1) 0 (by have := HRW.out; omega) _)
            have HP2 := Lib.hid (show OwnT w2 (W.heap.size + 1) 53 P vn (r.take (3 * vn)) by rw [hw2]; exact OwnT.set HP.out (w.heap.size + 1) 0 (by have := HRW.out; omega) _)
            have HB2 := Lib.hid (show Below (w.heap.size + 1) W w2 by rw [hw2]; exact HBW.out.setCell (p := ⟨w.heap.size + 1, 0, none⟩) (Nat.le_refl _) _)
            have HS2 := Lib.hid (show W.heap.size < w2.heap.size by rw [hw2, World.size_setCell]; exact HSZ.out)
            have HL2 := Lib.hid hr2.low
            have HX2 := Lib.hid hX2
            have HCL := Lib.hid (clone_ints a2 kn c2 KL w2 HKL.out (by omega) (hi2.below hr2.low))
            clear hX2 hi2 hr2 hw2 HT HP HBW HSZ HHX
            go_wp2_with fail
            refine HCL.out.mono ?_
            rintro e w3 ⟨v3, rfl, ho3, hb3⟩
            have hX3 : w3.heap[W.heap.size]? = some (.cells #[.int .i64 (vn : Int), T, P, .slice none 0 0] 48 (0, 0)) := (hb3.block _ HS2.out).trans HX2.out
            have HT3 := Lib.hid (HT2.out.below hb3)
            have HP3 := Lib.hid (HP2.out.below hb3)
            have HB3 := Lib.hid (HB2.out.trans (hb3.mono (by have := HS2.out; have := HRW.out; omega)))
            have HL3 := Lib.hid (HL2.out.trans (hb3.mono (HL2.out.size)))
            have hbk := HBK.out w3 HB3.out
            have d0 : w3.cell? ⟨w.heap.size, 0, none⟩ = some (.int .i64 0) := by rw [Lib.cell_of_heap hbk]; rfl
            have d1 : w3.cell? ⟨w.heap.size, 1, none⟩ = some (.slice none 0 0) := by rw [Lib.cell_of_heap hbk]; rfl
            have d2 : w3.cell? ⟨w.heap.size, 2, none⟩ = some (.slice none 0 0) := by rw [Lib.cell_of_heap hbk]; rfl
            have d3 : w3.cell? ⟨w.heap.size, 3, none⟩ = some (.slice none 0 0) := by rw [Lib.cell_of_heap hbk]; rfl
            have f0 : w3.frozen? ⟨w.heap.size, 0, none⟩ = false := Lib.frozen_of_heap hbk 0
            have f1 : w3.frozen? ⟨w.heap.size, 1, none⟩ = false := Lib.frozen_of_heap hbk 1
            have f2 : w3.frozen? ⟨w.heap.size, 2, none⟩ = false := Lib.frozen_of_heap hbk 2
            have f3 : w3.frozen? ⟨w.heap.size, 3, none⟩ = false := Lib.frozen_of_heap hbk 3
            have x0 : w3.cell? ⟨W.heap.size, 0, none⟩ = some (.int .i64 (vn : Int)) := by rw [Lib.cell_of_heap hX3]; rfl
            have x1 : w3.cell? ⟨W.heap.size, 1, none⟩ = some T := by rw [Lib.cell_of_heap hX3]; rfl
            have x2 : w3.cell? ⟨W.heap.size, 2, none⟩ = some P := by rw [Lib.cell_of_heap hX3]; rfl
            have x3 : w3.cell? ⟨W.heap.size, 3, none⟩ = some (.slice none 0 0) := by rw [Lib.cell_of_heap hX3]; rfl
            have y3 : w3.frozen? ⟨W.heap.size, 3, none⟩ = false := Lib.frozen_of_heap hX3 3
            have hne1 : w.heap.size ≠ W.heap.size := by have := HRW.out; omega
            have hne2 : W.heap.size ≠ w.heap.size := by have := HRW.out; omega
            have HO3 := Lib.hid ho3
            have HSV := Lib.hid HS2.out
            obtain ⟨at3, ct3, rfl, -, -, -⟩ := HT3.out.ints
            obtain ⟨ap3, cp3, rfl, -, -, -⟩ := HP3.out.ints
            obtain ⟨ak3, ck3, rfl, -, -, -⟩ := ho3.ints
            rw [HKL.out] at HO3 ⊢
            clear hb3 hX3 hbk ho3 HT2 HP2 HB2 HL2 HX2 HCL
            go_wp2_with fail
            have HFIN := Lib.hid (((((HL3.out.setCell (p := ⟨W.heap.size, 3, none⟩) (by have := HRW.out; show _ ≤ W.heap.size; omega) (.slice ak3 kn ck3)).setCell (p := ⟨w.heap.size, 0, none⟩) (Nat.le_refl _) (.int .i64 (vn : Int))).setCell (p := ⟨w.heap.size, 1, none⟩) (Nat.le_refl _) (.slice at3 tn ct3)).setCell (p := ⟨w.heap.size, 2, none⟩) (Nat.le_refl _) (.slice ap3 vn cp3)).setCell (p := ⟨w.heap.size, 3, none⟩) (Nat.le_refl _) (.slice ak3 kn ck3))
            have hlt0 : w.heap.size < W.heap.size + 1 := by have := HRW.out; omega
            have hltX : W.heap.size < W.heap.size + 1 := Nat.lt_succ_self _
            have hk0 : w.heap.size < w2.heap.size := by have := HRW.out; have := HSV.out; omega
            have HTF := Lib.hid (((((HT3.out.set W.heap.size 3 hltX (.slice ak3 kn ck3)).set w.heap.size 0 hlt0 (.int .i64 (vn : Int))).set w.heap.size 1 hlt0 (.slice at3 tn ct3)).set w.heap.size 2 hlt0 (.slice ap3 vn cp3)).set w.heap.size 3 hlt0 (.slice ak3 kn ck3))
            have HPF := Lib.hid (((((HP3.out.set W.heap.size 3 hltX (.slice ak3 kn ck3)).set w.heap.size 0 hlt0 (.int .i64 (vn : Int))).set w.heap.size 1 hlt0 (.slice at3 tn ct3)).set w.heap.size 2 hlt0 (.slice ap3 vn cp3)).set w.heap.size 3 hlt0 (.slice ak3 kn ck3))
            have HKF := Lib.hid (((((HO3.out.set W.heap.size 3 HSV.out (.slice ak3 kn ck3)).set w.heap.size 0 hk0 (.int .i64 (vn : Int))).set w.heap.size 1 hk0 (.slice at3 tn ct3)).set w.heap.size 2 hk0 (.slice ap3 vn cp3)).set w.heap.size 3 hk0 (.slice ak3 kn ck3))
            (try simp only [Exit.inBlock, Exit.then])
            refine bodyPost_ret (by simp [results, Tryd.results36, go_sem, d0, d1, d2, d3]; try rfl) rfl ?_
            refine ⟨_, rfl, ?_, HFIN.out⟩
            unfold BodyRes
            rw [HRES.out]
            have hkl : (bodyTold vn tn r).k = KL := HKD.out
            have hkn : (bodyTold vn tn r).k.length = kn := by rw [hkl]; exact HKL.out
            have hlo : ∀ (V Vf : World), (∀ k, w.heap.size ≤ k → k < Vf.heap.size → V.heap[k]? = Vf.heap[k]?) → ∀ B, w.heap.size ≤ B → ∀ k, B ≤ k → k < Vf.heap.size → V.heap[k]? = Vf.heap[k]? := fun V Vf h B hB k h1 h2 => h k (by omega) h2
            have hw1 : w.heap.size ≤ W.heap.size + 1 := by have := HRW.out; omega
            refine ⟨at3, ap3, ak3, ct3, cp3, ck3, ?_, fun V hV => ⟨⟨?_, ?_, ?_, ?_, ?_⟩, ?_, ?_⟩⟩
            · unfold bodyV
              rw [hkn]
              rfl
            · rw [show (bodyTold vn tn r).t = r2.take (3 * tn) from HTD.out]; exact ownsRow_high HTF.out (hlo V _ hV _ hw1)
            · exact ownsRow_high HPF.out (hlo V _ hV _ hw1)
            · rw [hkl]; exact ownsRow_high (n := KL.length) (by have := HKF.out; unfold OwnI at this; rw [← HKL.out] at this ⊢; exact this) (hlo V _ hV _ (Nat.le_of_lt hk0))
            · rw [show (bodyTold vn tn r).t = r2.take (3 * tn) from HTD.out]
              show _ = 3 * tn
              rw [List.length_take, HR2L.out]; omega
            · show (r.take (3 * vn)).length = 3 * vn
              have := HQ7.out
              rw [List.length_take, HRQ.out]; omega
            · show FreeRow _ V ap3 vn
              exact ownsRow_free HPF.out (hlo V _ hV _ hw1) hw1
            · rw [hkl]; exact ownsRow_free (n := KL.length) (by have := HKF.out; unfold OwnI at this; rw [← HKL.out] at this ⊢; exact this) (hlo V _ hV _ (Nat.le_of_lt hk0)) (Nat.le_of_lt hk0)

/-- The body that numbers tell, or none. -/
theorem body_any (a : Option Addr) (n c : Nat) (l : List Int) (w : World) (hn : l.length = n) (hc : n ≤ c) (hc2 : c ≤ maxLen) (h : Ints w a l) :
    Calls Tryd.prog 36 #[.slice a n c] w fun e w' => ∃ v, e = .returned v ∧ BodyRes w.heap.size w' l v ∧ Below w.heap.size w w' := by
  match l, hn, h with
  | [], hn, h => exact body_short a n c _ w hn hc hc2 h (by simp at hn; omega)
  | [_], hn, h => exact body_short a n c _ w hn hc hc2 h (by simp at hn; omega)
  | [_, _], hn, h => exact body_short a n c _ w hn hc hc2 h (by simp at hn; omega)
  | v :: t :: k :: r, hn, h =>
    obtain rfl : n = r.length + 3 := by simpa using hn.symm
    exact body_long a c v t k r w hc hc2 h

end Go.Proofs.YtjcffbhgjmaicaaDoor
