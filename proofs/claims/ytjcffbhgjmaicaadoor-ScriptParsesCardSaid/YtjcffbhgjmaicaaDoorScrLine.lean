/-
  Layer 55 (script): a right step's line.
-/
import Derived.Test.YtjcffbhgjmaicaaDoorScrSteps
import Derived.Test.YtjcffbhgjmaicaaDoorBuilder
import Derived.Lib.OwnKind
import Derived.Lib.AppendIntMem
namespace Go.Proofs.YtjcffbhgjmaicaaDoor
open Go.RowKit
open Script

/-- What the library's functions ask of the world. -/
structure Ready (w : World) : Prop where
  max : ∃ m, w.cell? ⟨0, 0, none⟩ = some (.int .i64 m)
  syn : ∃ t p, w.cell? ⟨1, 0, none⟩ = some (.iface t p)
  rng : ∃ t p, w.cell? ⟨2, 0, none⟩ = some (.iface t p)
  tab : Lib.TabIs Tryd.prog w "internal/strconv.uint64pow10" .u64 Lib.pow10Tab

theorem tabIs_below {n : String} {g : Nat} {k : IntKind} {zs : List Int} {w w' : World} (hg : Tryd.prog.globalNamed n = some g) (h : Lib.TabIs Tryd.prog w n k zs) (hb : Below w.heap.size w w') : Lib.TabIs Tryd.prog w' n k zs := by
  unfold Lib.TabIs World.var? at h ⊢
  rw [hg] at h ⊢
  simp only [Option.bind_some] at h ⊢
  have hlt : g < w.heap.size := by
    rcases Nat.lt_or_ge g w.heap.size with h' | h'
    · exact h'
    · rw [Array.getElem?_eq_none h'] at h; cases h
  rw [hb.block g hlt]
  exact h

theorem Ready.below {w w' : World} (h : Ready w) (hb : Below w.heap.size w w') : Ready w' := by
  obtain ⟨⟨m, h1⟩, ⟨t, p, h2⟩, ⟨t', p', h3⟩, h4⟩ := h
  exact ⟨⟨m, (hb.cell (lt_of_cell h1)).trans h1⟩, ⟨t, p, (hb.cell (lt_of_cell h2)).trans h2⟩, ⟨t', p', (hb.cell (lt_of_cell h3)).trans h3⟩, tabIs_below (g := 3) (by kernel_rfl) h4 hb⟩

set_option maxRecDepth 100000 in
theorem run_head4 (g m : Nat) (hm : m ≤ 4) : ∀ V : World, (Instr.sliceAt 49 (.pointer (some ⟨g, 2, none⟩)) none (some (.int .i64 (m : Int))) none).run Tryd.prog V = .ok (.slice (some ⟨g, 2, none⟩) m 4) V := by
  rcases (show m = 0 ∨ m = 1 ∨ m = 2 ∨ m = 3 ∨ m = 4 by omega) with rfl | rfl | rfl | rfl | rfl
  all_goals exact fun V => by kernel_rfl

/-- The words behind a line's first one. -/
def behind (l : List Int) : List UInt8 := l.flatMap fun x => 32 :: Lib.itoa x

theorem line_behind {s : Script.Step} {w : List UInt8} {m : Nat} (hs : Script.shape s.kind = some (w, m)) : Script.line s = w ++ ((if s.kind = 1 then 32 :: s.name else []) ++ behind (Script.nums s m)) := by
  rw [line_words hs]
  unfold words spaced behind
  by_cases hk : s.kind = 1
  · rw [if_pos hk, if_pos hk]
    show w ++ List.flatMap (fun x => 32 :: x) ([s.name] ++ List.map Lib.itoa (Script.nums s m)) = _
    rw [List.flatMap_append, List.flatMap_map]
    simp
  · rw [if_neg hk, if_neg hk]
    show w ++ List.flatMap (fun x => 32 :: x) ([] ++ List.map Lib.itoa (Script.nums s m)) = _
    rw [List.flatMap_append, List.flatMap_map]
    simp

theorem nDigits_small : ∀ (k u : Nat), u < 10 ^ (k + 1) → Lib.nDigits u ≤ k + 1
  | 0, u, h => by
    rw [Lib.nDigits, dif_pos (by simpa using h)]
    exact Nat.le_refl _
  | k + 1, u, h => by
    rw [Lib.nDigits]
    split
    · omega
    · have := nDigits_small k (u / 10) (by rw [Nat.pow_succ] at h; omega)
      omega

theorem itoa_small {x : Int} (h : Script.small x = true) : (Lib.itoa x).length ≤ 11 := by
  unfold Script.small at h
  simp only [Bool.and_eq_true, decide_eq_true_iff] at h
  unfold Lib.itoa
  split
  · rw [List.length_cons, Lib.decDigits_length]
    have := nDigits_small 9 x.natAbs (by omega)
    omega
  · rw [Lib.decDigits_length]
    have := nDigits_small 9 x.toNat (by omega)
    omega

theorem behind_length : ∀ {l : List Int}, l.all Script.small = true → (behind l).length ≤ 12 * l.length
  | [], _ => by simp [behind]
  | x :: l, h => by
    rw [List.all_cons, Bool.and_eq_true] at h
    have h1 := itoa_small h.1
    have h2 := behind_length h.2
    unfold behind at h2 ⊢
    rw [List.flatMap_cons, List.length_append, List.length_cons, List.length_cons]
    omega

theorem words_short : ∀ x ∈ Script.shapes, x.1.length ≤ 5 := by decide

theorem nums_small {s : Script.Step} (hr : Script.right s = true) (m : Nat) : (Script.nums s m).all Script.small = true := by
  obtain ⟨w, m', hs, h1, h2, h3⟩ := right_shape hr
  unfold Script.nums
  rw [List.all_append, Bool.and_eq_true]
  refine ⟨?_, ?_⟩
  · rw [List.all_eq_true] at h1 ⊢
    exact fun x hx => h1 x (List.mem_of_mem_take hx)
  · by_cases hk : s.kind = 1
    · rw [if_pos hk] at h3 ⊢
      unfold Script.fits at h3
      simp only [Bool.and_eq_true] at h3
      exact h3.2.2
    · rw [if_neg hk]; rfl

theorem nums_length {s : Script.Step} (hr : Script.right s = true) (hw : Script.Wf s) (m : Nat) : (Script.nums s m).length ≤ 70000 := by
  obtain ⟨w, m', hs, h1, h2, h3⟩ := right_shape hr
  unfold Script.nums
  rw [List.length_append, List.length_take]
  have := hw.n
  by_cases hk : s.kind = 1
  · rw [if_pos hk] at h3 ⊢
    unfold Script.fits at h3
    simp only [Bool.and_eq_true, decide_eq_true_iff] at h3
    have h4 := hw.p
    have h5 := hw.t
    unfold Script.numbers
    simp only [List.length_cons, List.length_append]
    omega
  · rw [if_neg hk, List.length_nil]
    omega

theorem line_length {s : Script.Step} (hr : Script.right s = true) (hw : Script.Wf s) : (Script.line s).length ≤ 1000000 := by
  obtain ⟨w, m, hs, h1, h2, h3⟩ := right_shape hr
  have h4 := nums_length hr hw m
  have h5 := behind_length (nums_small hr m)
  have h6 := words_short _ (shape_mem hs).1
  rw [line_behind hs, List.length_append, List.length_append]
  simp only at h6
  by_cases hk : s.kind = 1
  · rw [if_pos hk] at h3 ⊢
    unfold Script.named at h3
    simp only [Bool.and_eq_true, decide_eq_true_iff] at h3
    rw [List.length_cons]
    omega
  · rw [if_neg hk, List.length_nil]
    omega

theorem OwnI.others {w w' : World} {base b : Nat} {v : Value} {l : List Int} (h : OwnI w base v l) (ho : Lib.OthersKept 5 (some b) w w') (hb : b < base) : OwnI w' base v l := by
  refine ⟨h.1, ?_⟩
  rcases h.2 with hn | ⟨g, cap, cur, hv, hbg, hg, rest⟩
  · exact .inl hn
  · exact .inr ⟨g, cap, cur, hv, hbg, ho g _ hg (by intro e; injection e with e; omega) (by intro c fz e; injection e with _ e _; exact absurd e (by decide)), rest⟩

theorem builder_grownI {B b : Nat} {p : Value} {bs : List Value} {w w' : World} (h : Lib.BuilderAtF 66 5 B b p bs w) {base : Nat} {v : Value} {l : List Int} (ho : OwnI w base v l) (hg : w.grownBy w' v.ownBlock) :
    Lib.BuilderAtF 66 5 B b p bs w' := by
  have hlt := h.lt
  obtain ⟨hB, vb, hv, hown, hne⟩ := h
  have hk := Lib.ownsRow_kind ho
  refine ⟨hB, vb, (hg.block b hlt ?_).trans hv, hown.kept hg ?_, hne⟩
  · intro e
    obtain ⟨c, fz, hc⟩ := hk b e.symm
    rw [hv] at hc
    injection hc with hc
    injection hc with _ e2 _
    exact absurd e2 (by decide)
  · cases hvb : vb.ownBlock with
    | none => exact .inl rfl
    | some g =>
      refine .inr fun e => ?_
      obtain ⟨c, fz, hc⟩ := hk g e.symm
      obtain ⟨c2, fz2, hc2⟩ := Lib.ownsRowF_kind hown g hvb
      rw [hc2] at hc
      injection hc with hc
      injection hc with _ e2 _
      exact absurd e2 (by decide)

theorem byteCells_snoc (a b : List UInt8) : Lib.byteCells a ++ Lib.strCells ⟨b.toArray⟩ = Lib.byteCells (a ++ b) := by
  rw [Lib.strCells_eq]
  simp [Lib.byteCells]

theorem behind_snoc {l : List Int} {j : Nat} {u : Int} (h : l[j]? = some u) : behind (l.take (j + 1)) = behind (l.take j) ++ 32 :: Lib.itoa u := by
  rw [take_snoc h]
  simp [behind]

theorem behind_take_le (l : List Int) (j : Nat) : (behind (l.take j)).length ≤ (behind l).length := by
  conv => rhs; rw [← List.take_append_drop j l]
  unfold behind
  rw [List.flatMap_append, List.length_append]
  omega

theorem k_at {K : Act → World → Prop} {a : Act} {w : World} (h : ∀ V, V = w → K a V) : K a w := h w rfl

set_option maxRecDepth 100000 in
set_option maxHeartbeats 4000000 in
theorem line_any {s : Script.Step} {cs : Array Value} {w : World} (h : StepV w s cs) (hr : Script.right s = true) (hrd : Ready w) :
    Calls Tryd.prog 25 #[.agg cs] w fun e w' => e = .returned (.string ⟨(Script.line s).toArray⟩) ∧ Below w.heap.size w w' := by
  have HLL := Lib.hid (line_length hr h.wf)
  obtain ⟨wd, m, hs, hr1, hr2, hr3⟩ := right_shape hr
  have HNUL := Lib.hid (nums_length hr h.wf m)
  have hm4 : m ≤ 4 := shapes_many _ (shape_mem hs).1
  have HLN := Lib.hid (line_behind hs)
  have HSM := Lib.hid (nums_small hr m)
  obtain ⟨⟨⟨nl⟩⟩, n0, n1, n2, n3, ta, pa, ka, tc, pc, kc, h1, h2, rfl, h4, h5, h6, h7, h8⟩ := h
  have HNM := Lib.hid (fun (V : World) (hV : Below w.heap.size w V) => numbers_any s.body ta pa ka tc pc kc V (h4.below hV) h5 h6 h7)
  have HNU : Hid (Script.nums s m = [n0, n1, n2, n3].take m ++ (if s.kind = 1 then Script.numbers s.body else [])) := by show _ = _; unfold Script.nums; rw [h2]
  have HRD := Lib.hid (fun (V : World) (hV : Below w.heap.size w V) => hrd.below hV)
  rw [show s.name = nl from h1] at HLN
  clear hr hr1 hr2 hr3 h4 h5 h6 h7 h8 h1 h2 hrd
  unfold stepCells
  generalize s.kind = k at *
  generalize Script.line s = T at *
  generalize Script.nums s m = NU at *
  generalize s.body = b at *
  go_enter Tryd.func25, Tryd.ntmps25
  go_wp2_with fail
  have c0 : (w.alloc (.cells #[.int .i64 k, .string ⟨⟨nl⟩⟩, .int .i64 n0, .int .i64 n1, .int .i64 n2, .int .i64 n3, .int .i64 b.sn, .slice ta b.tn tc, .slice pa b.pn pc, .slice ka b.k.length kc] 51)).cell? ⟨w.heap.size, 0, none⟩ = some (.int .i64 k) := by rw [World.cell?_alloc_new]; rfl
  have hw0 := (Below.refl w.heap.size w).alloc (Nat.le_refl _) (.cells #[.int .i64 k, .string ⟨⟨nl⟩⟩, .int .i64 n0, .int .i64 n1, .int .i64 n2, .int .i64 n3, .int .i64 b.sn, .slice ta b.tn tc, .slice pa b.pn pc, .slice ka b.k.length kc] 51)
  have HCW : ∀ j u, #[Value.int .i64 k, .string ⟨⟨nl⟩⟩, .int .i64 n0, .int .i64 n1, .int .i64 n2, .int .i64 n3, .int .i64 b.sn, .slice ta b.tn tc, .slice pa b.pn pc, .slice ka b.k.length kc][j]? = some u → (w.alloc (.cells #[.int .i64 k, .string ⟨⟨nl⟩⟩, .int .i64 n0, .int .i64 n1, .int .i64 n2, .int .i64 n3, .int .i64 b.sn, .slice ta b.tn tc, .slice pa b.pn pc, .slice ka b.k.length kc] 51)).cell? ⟨w.heap.size, j, none⟩ = some u := fun j u hj => by rw [World.cell?_alloc_new]; exact hj
  generalize w.alloc (.cells #[.int .i64 k, .string ⟨⟨nl⟩⟩, .int .i64 n0, .int .i64 n1, .int .i64 n2, .int .i64 n3, .int .i64 b.sn, .slice ta b.tn tc, .slice pa b.pn pc, .slice ka b.k.length kc] 51) = W0 at *
  have HW0 := Lib.hid hw0
  have HCC := Lib.hid (fun V (hV : Below W0.heap.size W0 V) j u hj => (hV.cell (p := ⟨w.heap.size, j, none⟩) (lt_of_cell (HCW j u hj))).trans (HCW j u hj))
  clear hw0 HCW
  have HC0 : Hid (∀ V, Below W0.heap.size W0 V → Below W0.heap.size W0 V ∧ V.cell? ⟨w.heap.size, 0, none⟩ = some (.int .i64 k)) := fun V hV => ⟨hV, (hV.cell (p := ⟨w.heap.size, 0, none⟩) (lt_of_cell c0)).trans c0⟩
  have l1 := look_shape (w := (W0.alloc (.map shapeEntries 13)).drew) (r := W0.heap.size) (shapesAt_new W0) hs false
  have l2 := look_shape (w := ((W0.alloc (.map shapeEntries 13)).alloc (.cells #[.string ⟨#[]⟩, .int .i64 0] 82)).drew) (r := W0.heap.size) ((shapesAt_new W0).below ((Below.refl _ _).alloc (Nat.le_refl _) (.cells #[.string ⟨#[]⟩, .int .i64 0] 82)).drew) hs false
  have l3 := look_shape (w := ((W0.alloc (.cells #[.string ⟨#[]⟩, .int .i64 0] 82)).alloc (.map shapeEntries 13)).drew) (r := W0.heap.size + 1) (by
    have h := shapesAt_new (W0.alloc (.cells #[.string ⟨#[]⟩, .int .i64 0] 82))
    rw [World.size_alloc] at h
    exact h) hs false
  simp only [shapeVal, if_false, Bool.false_eq_true] at l1 l2 l3
  have b1 := (Below.refl W0.heap.size W0)
  have cx1 : ∀ j u, #[Value.string ⟨wd.toArray⟩, .int .i64 (m : Int)][j]? = some u → ((W0.alloc (.map shapeEntries 13)).alloc (.cells #[.string ⟨wd.toArray⟩, .int .i64 (m : Int)] 82)).drew.cell? ⟨W0.heap.size + 1, j, none⟩ = some u := fun j u hj => by
    have h : ((W0.alloc (.map shapeEntries 13)).alloc (.cells #[.string ⟨wd.toArray⟩, .int .i64 (m : Int)] 82)).cell? ⟨(W0.alloc (.map shapeEntries 13)).heap.size, j, none⟩ = some u := by rw [World.cell?_alloc_new]; exact hj
    rw [World.size_alloc] at h
    exact h
  have cx2 : ∀ j u, #[Value.string ⟨wd.toArray⟩, .int .i64 (m : Int)][j]? = some u → ((W0.alloc (.cells #[.string ⟨wd.toArray⟩, .int .i64 (m : Int)] 82)).alloc (.map shapeEntries 13)).drew.cell? ⟨W0.heap.size, j, none⟩ = some u := fun j u hj => by
    have h : (W0.alloc (.cells #[.string ⟨wd.toArray⟩, .int .i64 (m : Int)] 82)).cell? ⟨W0.heap.size, j, none⟩ = some u := by rw [World.cell?_alloc_new]; exact hj
    exact (((Below.refl _ (W0.alloc (.cells #[.string ⟨wd.toArray⟩, .int .i64 (m : Int)] 82))).alloc (Nat.le_refl _) (.map shapeEntries 13)).cell (p := ⟨W0.heap.size, j, none⟩) (lt_of_cell h)).trans h
  have CX1 := Lib.hid cx1
  have CX2 := Lib.hid cx2
  clear cx1 cx2
  go_region_held3 (fun V => Below W0.heap.size W0 V ∧ V.cell? ⟨w.heap.size, 0, none⟩ = some (.int .i64 k))
    (first
      | exact HC0.out _ b1.drew
      | exact HC0.out _ (b1.alloc (Nat.le_refl _) _).drew
      | exact HC0.out _ ((b1.alloc (Nat.le_refl _) _).alloc (by simp) _).drew)
    (first
      | (go_at_call 34; refine (shapes_any _).mono ?_; rintro e w5 ⟨rfl, rfl⟩))
  all_goals
    have hV := (show Below W0.heap.size W0 _ from (by assumption : Below W0.heap.size W0 _ ∧ _).1)
    clear l1 l2 l3
    refine k_at (K := _) ?_
    intro V hVe
    rw [← hVe] at hV
    first
      | (have cx := CX1.out; rw [← hVe] at cx)
      | (have cx := CX2.out; rw [← hVe] at cx)
    have HV := Lib.hid hV
    have HXC := Lib.hid (fun V' (hV' : Below V.heap.size V V') j u hj => (hV'.cell (p := ⟨_, j, none⟩) (lt_of_cell (cx j u hj))).trans (cx j u hj))
    clear hVe cx hV
    have HB0 := Lib.hid (Lib.IsBuilderF.of (Lib.fresh_isBuilder 66 5 V))
    have HE0 := Lib.hid ((Below.refl V.heap.size V).alloc (Nat.le_refl _) (.cells #[.pointer none, .slice none 0 0] 66))
    have x0 := HXC.out _ HE0.out 0 _ rfl
    go_wp2_with fail
    refine (writeString_any V.heap.size V.heap.size [] ⟨wd.toArray⟩ _ HB0.out ?_ (by simp)).mono ?_
    · have h1 := HLL.out
      have h2 := HLN.out
      rw [h2, List.length_append] at h1
      show 0 + wd.toArray.size ≤ _
      rw [List.size_toArray]
      omega
    rintro e V2 ⟨rfl, hbt2, hbl2, -⟩
    have HE2 := Lib.hid (HE0.out.trans hbl2)
    have HT2 := Lib.hid hbt2
    have x1 := HXC.out _ HE2.out 1 _ rfl
    have HW2 := Lib.hid (HV.out.trans (HE2.out.mono HV.out.size))
    have hh4 := run_head4 w.heap.size m hm4
    have CL := Lib.hid (Tryd.slices_Clone_int w.heap.size 2 m 4 [n0, n1, n2, n3] V2 (by simpa using hm4) (by omega) (fun j hj => by
      have hj4 : j < 4 := hj
      match j, hj4 with
      | 0, _ => exact HCC.out _ HW2.out 2 _ rfl
      | 1, _ => exact HCC.out _ HW2.out 3 _ rfl
      | 2, _ => exact HCC.out _ HW2.out 4 _ rfl
      | 3, _ => exact HCC.out _ HW2.out 5 _ rfl))
    clear hbl2 hbt2 x0
    go_wp2_with fail
    refine CL.out.mono ?_
    rintro e V3 ⟨v3, rfl, ho3, -, hb3⟩
    have HO3 := Lib.hid (show OwnI V3 V2.heap.size v3 ([n0, n1, n2, n3].take m) by
      unfold OwnI
      rw [List.length_take, show min m [n0, n1, n2, n3].length = m from Nat.min_eq_left hm4]
      exact ho3)
    have HE3 := Lib.hid (HE2.out.trans (hb3.mono HE2.out.size))
    have HT3 := Lib.hid (builderAtF_below HT2.out hb3)
    have HW3 := Lib.hid (HW2.out.trans (hb3.mono HW2.out.size))
    have s0 := HCC.out _ HW3.out 0 _ rfl
    have HSZ := Lib.hid HT2.out.lt
    have HB3 := Lib.hid hb3.size
    have HBS : Hid ([] ++ Lib.strCells ⟨wd.toArray⟩ = Lib.byteCells wd) := by show _ = _; simp [Lib.strCells_eq]
    rw [HBS.out] at HT3
    clear ho3 hb3 x1 CL hh4
    by_cases hk1 : k = 1
    case' pos =>
      subst hk1
      have HTOT : Hid (T = (wd ++ 32 :: nl) ++ behind NU) := by show _ = _; rw [HLN.out, if_pos rfl, List.append_assoc]
      have HNU2 : Hid (NU = [n0, n1, n2, n3].take m ++ Script.numbers b) := by show _ = _; rw [HNU.out, if_pos rfl]
      have s1 := HCC.out _ HW3.out 1 _ rfl
      have HNL : Hid (wd.length + nl.length + 1 ≤ 1000000) := by
        show _ ≤ _
        have h1 := HLL.out
        rw [HTOT.out, List.length_append, List.length_append, List.length_cons] at h1
        omega
      have hadd : ∀ V : World, (Op.stringOp .add ⟨#[32]⟩ ⟨⟨nl⟩⟩).run Tryd.prog V = .ok (.string ⟨(32 :: nl).toArray⟩) V := fun V => run_string_add_lists _ [32] nl (by simp) (by have := HNL.out; omega)
      clear HLN HNU
      go_wp2_with fail
      refine (writeString_any V.heap.size V.heap.size (Lib.byteCells wd) ⟨(32 :: nl).toArray⟩ V3 (.inr HT3.out) ?_ HE3.out.size).mono ?_
      · rw [Lib.byteCells_length]
        show _ + (32 :: nl).toArray.size ≤ _
        rw [List.size_toArray, List.length_cons]
        have := HNL.out
        omega
      rintro e V4 ⟨rfl, hbt4, hbl4, hoth4⟩
      rw [byteCells_snoc] at hbt4
      have HT4 := Lib.hid hbt4
      have HE4 := Lib.hid (HE3.out.trans hbl4)
      have HO4 := Lib.hid (HO3.out.others hoth4 HSZ.out)
      have HW4 := Lib.hid (HV.out.trans (HE4.out.mono HV.out.size))
      have HB4 := Lib.hid (show V2.heap.size ≤ V4.heap.size from Nat.le_trans HB3.out hbl4.size)
      have s6 := HCC.out _ HW4.out 6 _ rfl
      have s7 := HCC.out _ HW4.out 7 _ rfl
      have s8 := HCC.out _ HW4.out 8 _ rfl
      have s9 := HCC.out _ HW4.out 9 _ rfl
      clear hbt4 hbl4 hoth4 HT3 HE3 HO3 HW3 s0 s1 hadd
      go_wp2_with fail
      refine (HNM.out V4 (HW0.out.trans (HW4.out.mono HW0.out.size))).mono ?_
      rintro e V5 ⟨v5, rfl, ho5, hb5⟩
      have HT5 := Lib.hid (builderAtF_below HT4.out hb5)
      have HE5 := Lib.hid (HE4.out.trans (hb5.mono HE4.out.size))
      have HO5 := Lib.hid (HO4.out.later hb5)
      obtain ⟨a5, c5, rfl, hc5, hm5, t5⟩ := ho5.ints
      have HI5 := Lib.hid t5
      have HB5 := Lib.hid (Nat.le_trans HB4.out hb5.size)
      clear ho5 hb5 t5 HT4 HE4 HO4 HW4 s6 s7 s8 s9 hc5 hm5
      go_wp2_with (at_builtin; refine stop ?_)
      refine unstop (wpList_appendI rfl _ _ rfl rfl HO5.out rfl rfl HI5.out ?_ HB5.out ?_)
      · have h1 := HNUL.out
        rw [HNU2.out, List.length_append] at h1
        omega
      intro v6 V6 ho6 hg6
      rw [← HNU2.out] at ho6
      have HO6 := Lib.hid ho6
      have HT6 := Lib.hid (builder_grownI HT5.out HO5.out hg6)
      have HE6 := Lib.hid (below_appendI HE5.out HO5.out (Nat.le_of_lt HSZ.out) hg6)
      clear ho6 hg6 HT5 HE5 HO5 HI5 HB5
      obtain ⟨a6, c6, rfl, hc6, hm6, t6⟩ := HO6.out.ints
      have HT : Hid (Lib.BuilderAtF 66 5 V.heap.size V.heap.size (.pointer (some ⟨V.heap.size, 0, none⟩)) (Lib.byteCells ((wd ++ 32 :: nl) ++ behind (NU.take 0))) V6) := by
        show Lib.BuilderAtF _ _ _ _ _ _ _
        rw [List.take_zero, show behind [] = [] from rfl, List.append_nil]
        exact HT6.out
      generalize hacc : wd ++ 32 :: nl = acc at *
      clear hc6 hm6 t6 HT6 hacc HNU2 HNL
      go_wp2_with fail
    case' neg =>
      have HTOT : Hid (T = wd ++ behind NU) := by show _ = _; rw [HLN.out, if_neg hk1, List.nil_append]
      have HNU2 : Hid (NU = [n0, n1, n2, n3].take m) := by show _ = _; rw [HNU.out, if_neg hk1, List.append_nil]
      have hkb : (k == 1) = false := by rw [beq_eq_false_iff_ne]; exact hk1
      have HO6 := Lib.hid HO3.out
      rw [← HNU2.out] at HO6
      have HE6 := Lib.hid HE3.out
      obtain ⟨a6, c6, rfl, hc6, hm6, t6⟩ := HO6.out.ints
      have HT : Hid (Lib.BuilderAtF 66 5 V.heap.size V.heap.size (.pointer (some ⟨V.heap.size, 0, none⟩)) (Lib.byteCells (wd ++ behind (NU.take 0))) V3) := by
        show Lib.BuilderAtF _ _ _ _ _ _ _
        rw [List.take_zero, show behind [] = [] from rfl, List.append_nil]
        exact HT3.out
      obtain ⟨acc, hacc⟩ : ∃ acc, acc = wd := ⟨_, rfl⟩
      rw [← hacc] at HT HTOT
      clear hc6 hm6 t6 HT3 hacc HNU2 HLN HNU HO3 HE3
      go_wp2_with fail
    all_goals
      clear HCC HNM HXC CX1 CX2 HC0 b1
      go_loopw [34] (fun i wr => ∃ j : Nat, j ≤ NU.length ∧ i = .int .i64 j ∧ OwnI wr V2.heap.size (.slice a6 NU.length c6) NU ∧ Lib.BuilderAtF 66 5 V.heap.size V.heap.size (.pointer (some ⟨V.heap.size, 0, none⟩)) (Lib.byteCells (acc ++ behind (NU.take j))) wr ∧ Below V.heap.size V wr) (fun i _ => NU.length - (intOf i).toNat)
      case atStart => exact ⟨0, by omega, rfl, HO6.out, HT.out, HE6.out⟩
      case round =>
        clear HO6 HT HE6
        have hnul := HNUL.out
        obtain ⟨j, hj, rfl, ho, ht, hb⟩ := hrel
        by_cases hjn : j < NU.length
        · obtain ⟨u, hu⟩ : ∃ u, NU[j]? = some u := ⟨NU[j]'hjn, List.getElem?_eq_getElem _⟩
          obtain ⟨_, _, hv6, _, _, ti⟩ := ho.ints
          injection hv6 with hv6 _ hv7
          subst hv6 hv7
          obtain ⟨g, o, rfl, hc⟩ := ti.at_ (by omega)
          have hcl := hc j u hu
          have hus : Script.small u = true := by
            have := HSM.out
            rw [List.all_eq_true] at this
            exact this u (List.mem_of_getElem? hu)
          have hu2 : -1000000000 ≤ u ∧ u ≤ 1000000000 := by unfold Script.small at hus; simpa using hus
          have HIT := Lib.hid (Tryd.strconv_Itoa u (by omega) (by omega) wr (HRD.out wr (HW0.out.trans ((HV.out.trans (hb.mono HV.out.size)).mono HW0.out.size))).tab)
          have hadd : ∀ V : World, (Op.stringOp .add ⟨#[32]⟩ ⟨(Lib.itoa u).toArray⟩).run Tryd.prog V = .ok (.string ⟨(32 :: Lib.itoa u).toArray⟩) V := fun V => run_string_add_lists _ [32] (Lib.itoa u) (by simp) (by have := itoa_small hus; omega)
          have HLEN : Hid ((acc ++ behind (NU.take j)).length + (Lib.itoa u).length ≤ 2000000) := by
            show _ ≤ _
            have h1 := HLL.out
            have h2 := behind_take_le NU j
            have h3 := itoa_small hus
            rw [HTOT.out, List.length_append] at h1
            rw [List.length_append]
            omega
          have HBN := Lib.hid (behind_snoc hu)
          have HO := Lib.hid ho
          have HTR := Lib.hid ht
          have HB := Lib.hid hb
          clear hu hus hu2 ho ht hb ti hc
          go_wp2_with fail
          refine HIT.out.mono ?_
          rintro e w7 ⟨rfl, kk, os, rfl⟩
          have hbg := Lib.below_grow wr.heap.size wr (Nat.le_refl _) kk os
          have HO7 := Lib.hid (HO.out.later hbg)
          have HT7 := Lib.hid (builderAtF_below HTR.out hbg)
          have HB7 := Lib.hid (HB.out.trans (hbg.mono HB.out.size))
          clear hbg HO HTR HB HIT
          generalize Sort.grow (wr.drewN kk) os = w7 at *
          go_wp2_with fail
          refine (writeString_any V.heap.size V.heap.size _ ⟨(32 :: Lib.itoa u).toArray⟩ w7 (.inr HT7.out) ?_ HB7.out.size).mono ?_
          · rw [Lib.byteCells_length]
            show _ + (32 :: Lib.itoa u).toArray.size ≤ _
            rw [List.size_toArray, List.length_cons]
            have := HLEN.out
            omega
          rintro e w8 ⟨rfl, ht8, hb8, hoth8⟩
          rw [byteCells_snoc, List.append_assoc, ← HBN.out] at ht8
          have ho8 := HO7.out.others hoth8 HSZ.out
          have hbb8 := HB7.out.trans hb8
          clear hoth8 hb8 HO7 HT7 HB7 hadd
          go_wp2_with fail
          go_roundw
          case rel => exact ⟨j + 1, by omega, by go_num, ho8, ht8, hbb8⟩
          case measure => simp [intOf]; omega
        · obtain rfl : j = NU.length := by omega
          rw [List.take_length, ← HTOT.out] at ht
          have HTR := Lib.hid ht
          have HB := Lib.hid hb
          clear ht hb ho
          go_wp2_with fail
          refine (Tryd.Builder_String_any_f V.heap.size V.heap.size T wr (.inr HTR.out) HB.out.size).mono ?_
          rintro e w9 ⟨rfl, -, hb9⟩
          go_wp2_with fail
          go_ret
          exact ⟨rfl, HW0.out.trans ((HV.out.trans ((HB.out.trans hb9).mono HV.out.size)).mono HW0.out.size)⟩

end Go.Proofs.YtjcffbhgjmaicaaDoor
