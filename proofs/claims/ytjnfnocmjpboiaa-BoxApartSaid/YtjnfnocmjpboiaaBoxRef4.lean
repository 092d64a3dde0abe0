/-
  Layer 7 (box): the law package's pack.
-/
import Derived.Test.YtjnfnocmjpboiaaBoxRef3
import Derived.Test.YtjnfnocmjpboiaaBoxRightA
namespace Go.Proofs.Ytjnfnocmjpboiaa
open Go.RowKit
open CrcMath BoxMath

theorem infoSl : (Try.prog.info? 25).map (fun i => (i.zero, i.size, i.bytes)) = some (some (.slice none 0 0), 1, 24) := by kernel_rfl

/-- The slice value v owns a row of slices that read as the texts ls in the world w0. -/
def SlOwn (w0 w : World) (base : Nat) (v : Value) (ls : List (List Nat)) : Prop :=
  ∃ vs : List Value, w.ownsRow base 25 1 v ls.length vs ∧ vs.length = ls.length ∧ ∀ (i : Nat) (l : List Nat) (u : Value), ls[i]? = some l → vs[i]? = some u → ∃ A c, u = .slice A l.length c ∧ Txt w0 A l

theorem SlOwn.nil (w0 w : World) (base : Nat) : SlOwn w0 w base (.slice none 0 0) [] := ⟨[], World.ownsRow_nil w base _ 1, rfl, fun i l u h => by simp at h⟩
theorem SlOwn.later {w0 w w' : World} {base : Nat} {v : Value} {ls : List (List Nat)} (h : SlOwn w0 w base v ls) (hb : Below w.heap.size w w') : SlOwn w0 w' base v ls := by
  obtain ⟨vs, h1, h2⟩ := h
  refine ⟨vs, h1.kept (row := none) ⟨hb.os, hb.tape, hb.output, hb.size, fun k hk _ => hb.block k hk⟩ ?_, h2⟩
  cases hv : v.ownBlock <;> simp
theorem SlOwn.drew {w0 w : World} {base : Nat} {v : Value} {ls : List (List Nat)} (h : SlOwn w0 w base v ls) : SlOwn w0 w.drew base v ls := h
theorem SlOwn.keptB {w0 w w' : World} {base base' : Nat} {v x : Value} {ls : List (List Nat)} {l : List Nat} (h : SlOwn w0 w base v ls) (hx : OwnB w base' x l) (hg : w.grownBy w' x.ownBlock) : SlOwn w0 w' base v ls := by
  obtain ⟨vs, h1, h2⟩ := h
  exact ⟨vs, h1.kept hg (row_ne h1 hx.2 (by decide)), h2⟩
theorem OwnB.keptS {w0 w w' : World} {base base' : Nat} {v x : Value} {ls : List (List Nat)} {l : List Nat} (hx : OwnB w base' x l) (h : SlOwn w0 w base v ls) (hg : w.grownBy w' v.ownBlock) : OwnB w' base' x l := by
  obtain ⟨vs, h1, h2⟩ := h
  exact hx.kept hg (row_ne hx.2 h1 (by decide))
theorem SlOwn.lt {w0 w : World} {base : Nat} {v : Value} {ls : List (List Nat)} (h : SlOwn w0 w base v ls) : ∀ k, v.ownBlock = some k → base ≤ k ∧ k < w.heap.size := by
  obtain ⟨vs, h1, _⟩ := h
  exact h1.lt

/-- One slice more. -/
theorem run_appendS {w0 w : World} {base : Nat} {v : Value} {ls : List (List Nat)} (h : SlOwn w0 w base v ls) (l : List Nat) (D : Option Addr) (cd : Nat) (ht : Txt w0 D l)
    {A : Option Addr} {c : Nat} (hr : Row w A [.slice D l.length cd]) (hlen : ls.length + 1 ≤ 1000000) (hbase : base ≤ w.heap.size) (ty : TypeId) :
    ∃ v' w', (Builtin.append_ #[52, 52] ty #[v, .slice A 1 c]).run Try.prog w = .ok v' w' ∧ SlOwn w0 w' base v' (ls ++ [l]) ∧ w.grownBy w' v.ownBlock := by
  obtain ⟨i0, hi0, hz0, hz1, hz2⟩ := info_parts infoSl
  obtain ⟨vs, h1, h2, h3⟩ := h
  obtain ⟨v', w', hrun, ho, hg, _⟩ := run_append_row (P := Try.prog) w base 52 ty 25 i0 _ 1 24 Try.underlying52 hi0 hz0 hz1 hz2 rfl (by omega) v ls.length vs h1 A 1 c [.slice D l.length cd] (by simp) hr (by simp [Value.oneCell']) (by simp only [maxLen]; omega) (by omega) hbase
  refine ⟨v', w', hrun, ⟨vs ++ [.slice D l.length cd], by rw [List.length_append]; exact ho, by simp [h2], ?_⟩, hg⟩
  intro i m u hi hu
  rcases Nat.lt_or_ge i ls.length with hlt | hge
  · rw [List.getElem?_append_left hlt] at hi
    rw [List.getElem?_append_left (by omega)] at hu
    exact h3 i m u hi hu
  · rw [List.getElem?_append_right hge] at hi
    rw [List.getElem?_append_right (by omega)] at hu
    have h0 : i - ls.length = 0 := by
      have := (List.getElem?_eq_some_iff.1 hi).1
      simp at this; omega
    rw [h2, h0] at hu
    rw [h0] at hi
    simp at hi hu
    subst hi hu
    exact ⟨D, cd, rfl, ht⟩

theorem step_appendS {w0 w : World} {ops : Array Oper} {o : Oper} {a : Act} {K : Act → World → Prop} {Q : Exit → Act → World → Prop} {E : Prop} (hgd : o.guard = none) (s x : Operand)
    (ho : o.op = .call { callee := .builtin .append, args := #[s, x], argTypes := #[52, 52] })
    {base : Nat} {v : Value} {ls : List (List Nat)} (hs : a.eval s = v) (h : SlOwn w0 w base v ls) (l : List Nat) (D : Option Addr) (cd : Nat) (ht : Txt w0 D l)
    {A : Option Addr} {c : Nat} (hx : a.eval x = .slice A 1 c) (hr : Row w A [.slice D l.length cd]) (hlen : ls.length + 1 ≤ 1000000) (hbase : base ≤ w.heap.size)
    (hK : ∀ v' w', SlOwn w0 w' base v' (ls ++ [l]) → w.grownBy w' v.ownBlock → K (a.put o.dst v') w') :
    if Region.wanted o (yielded ops a.tmps) = true then Oper.wp Try.prog o a w K Q else E := by
  have hw : Region.wanted o (yielded ops a.tmps) = true := by simp [Region.wanted, hgd]
  rw [if_pos hw]
  obtain ⟨v', w', hrun, h2, h3⟩ := run_appendS h l D cd ht (c := c) hr hlen hbase o.type
  unfold Oper.wp execOp
  simp only [ho, resolve, invoke, builtin, Sem.run_bind, Sem.run_pure, Result.andThen_ok, List.map_toArray, List.map_cons, List.map_nil, hs, hx, hrun]
  exact hK v' w' h2 h3

theorem wpList_appendS {w0 w : World} {ops : Array Oper} {rest : List Oper} {o : Oper} {a : Act} {Q : Exit → Act → World → Prop} (hgd : o.guard = none) (s x : Operand)
    (ho : o.op = .call { callee := .builtin .append, args := #[s, x], argTypes := #[52, 52] })
    {base : Nat} {v : Value} {ls : List (List Nat)} (hs : a.eval s = v) (h : SlOwn w0 w base v ls) (l : List Nat) (D : Option Addr) (cd : Nat) (ht : Txt w0 D l)
    {A : Option Addr} {c : Nat} (hx : a.eval x = .slice A 1 c) (hr : Row w A [.slice D l.length cd]) (hlen : ls.length + 1 ≤ 1000000) (hbase : base ≤ w.heap.size)
    (hK : ∀ v' w', SlOwn w0 w' base v' (ls ++ [l]) → w.grownBy w' v.ownBlock → wpList Try.prog ops Q rest (a.put o.dst v') w') : wpList Try.prog ops Q (o :: rest) a w :=
  wpList_plain hgd fun K hK' => by
    obtain ⟨v', w', hrun, h2, h3⟩ := run_appendS h l D cd ht (c := c) hr hlen hbase o.type
    unfold Oper.wp execOp
    simp only [ho, resolve, invoke, builtin, Sem.run_bind, Sem.run_pure, Result.andThen_ok, List.map_toArray, List.map_cons, List.map_nil, hs, hx, hrun]
    exact hK' _ _ (hK v' w' h2 h3)

theorem SlOwn.form {w0 w : World} {base : Nat} {v : Value} {ls : List (List Nat)} (h : SlOwn w0 w base v ls) (hb : Below w0.heap.size w0 w) : ∃ a c, v = .slice a ls.length c ∧ ls.length ≤ c ∧ c ≤ maxLen ∧ Slices w a ls := by
  obtain ⟨vs, h1, h2, h3⟩ := h
  obtain ⟨a, c, rfl, h4, h5⟩ := ownsRow_form h1
  refine ⟨a, c, rfl, h4, h5, fun i l hi => ?_⟩
  have hil := (List.getElem?_eq_some_iff.1 hi).1
  obtain ⟨u, hu⟩ : ∃ u, vs[i]? = some u := ⟨vs[i]'(by omega), List.getElem?_eq_getElem _⟩
  obtain ⟨b, off, rfl, hc⟩ := Row.own h1 (by omega)
  obtain ⟨A, c', e, ht⟩ := h3 i l u hi hu
  subst e
  exact ⟨b, off, A, c', rfl, hc i _ hu, ht.below hb⟩

theorem row_newS (V : World) (v : Value) : Row (V.alloc (.cells #[v] 25)) (some ⟨V.heap.size, 0, none⟩) [v] := by
  refine fun _ => ⟨_, _, rfl, fun j u hj => ?_⟩
  rw [World.cell?_alloc_new]
  match j, hj with
  | 0, hj => simp at hj; subst hj; rfl
  | n + 1, hj => simp at hj

theorem row_of_cell {V : World} {g : Nat} {v : Value} (h : V.cell? ⟨g, 0, none⟩ = some v) : Row V (some ⟨g, 0, none⟩) [v] := by
  refine fun _ => ⟨_, _, rfl, fun j u hj => ?_⟩
  match j, hj with
  | 0, hj => simp at hj; subst hj; exact h
  | n + 1, hj => simp at hj

/-- What stands at the first append of a round of 'pack'. -/
structure PackAt (w V : World) (u3 u4 : Value) (ks : List Nat) (ds : List (List Nat)) (g kd : Nat) : Prop where
  own : OwnB V w.heap.size u3 ks
  sl : SlOwn w V w.heap.size u4 ds
  bel : Below w.heap.size w V
  txt : Txt V (some ⟨g, 0, none⟩) [kd]

theorem PackAt.later {w V V' : World} {u3 u4 : Value} {ks : List Nat} {ds : List (List Nat)} {g kd : Nat} (h : PackAt w V u3 u4 ks ds g kd) (hb : Below V.heap.size V V') : PackAt w V' u3 u4 ks ds g kd :=
  ⟨h.own.later hb, h.sl.later hb, h.bel.trans (hb.mono h.bel.size), h.txt.below hb⟩

set_option maxHeartbeats 2000000 in
theorem lawPack_any (a : Option Addr) (n c : Nat) (cs : List (Nat × List Nat)) (w : World) (hn : cs.length = n) (hn2 : n ≤ 1024) (hl : 36 + 18 * n + (dataOf cs).length ≤ 4194304) (h : Chunks w a cs) :
    Calls Try.prog 13 #[.slice a n c] w fun e w' => ∃ v, e = .returned v ∧ OwnB w' w.heap.size v (boxOf cs) ∧ Below w.heap.size w w' := by
  have HX := Lib.hid h
  have HN := Lib.hid hn
  have HPK := Lib.hid (fun ka da kc dc V tk sd => refPack_any ka da n kc dc cs V hn hn2 hl tk sd)
  obtain ⟨KS, hKS⟩ : ∃ KS : Nat → List Nat, KS = fun k => (cs.take k).map (·.1) := ⟨_, rfl⟩
  have HKS := Lib.hid hKS
  obtain ⟨DS, hDS⟩ : ∃ DS : Nat → List (List Nat), DS = fun k => (cs.take k).map (·.2) := ⟨_, rfl⟩
  have HDS := Lib.hid hDS
  have HK0 : Hid (KS 0 = []) := by show _ = _; rw [hKS]; rfl
  have HD0 : Hid (DS 0 = []) := by show _ = _; rw [hDS]; rfl
  clear h hn hl hKS hDS
  generalize boxOf cs = B at *
  go_enter Try.func13, Try.ntmps13
  go_wp2_with fail
  go_loopw [3, 4, 5] (fun x y i wr => ∃ k : Nat, k ≤ n ∧ i = .int .i64 k ∧ OwnB wr w.heap.size x (KS k) ∧ SlOwn w wr w.heap.size y (DS k) ∧ Below w.heap.size w wr) (fun _ _ i _ => n - (intOf i).toNat)
  case atStart => exact ⟨0, by omega, rfl, by rw [HK0.out]; exact OwnB.none_, by rw [HD0.out]; exact SlOwn.nil _ _ _, Below.refl _ _⟩
  case round =>
    obtain ⟨k, hk, rfl, ho, hs, hb⟩ := hrel
    by_cases hkn : k < n
    · obtain ⟨⟨kd, l⟩, hck⟩ : ∃ x, cs[k]? = some x := ⟨cs[k]'(by rw [HN.out]; exact hkn), List.getElem?_eq_getElem _⟩
      obtain ⟨hkd, b, off, A, c', rfl, hc1, hc2, hlc, hcc, tx0⟩ := HX.out k kd l hck
      have HSK : Hid (KS (k + 1) = KS k ++ [kd]) := by show _ = _; rw [HKS.out]; show (cs.take (k + 1)).map _ = (cs.take k).map _ ++ [kd]; rw [take_snoc hck]; simp
      have HSD : Hid (DS (k + 1) = DS k ++ [l]) := by show _ = _; rw [HDS.out]; show (cs.take (k + 1)).map _ = (cs.take k).map _ ++ [l]; rw [take_snoc hck]; simp
      have HSV : Hid (∀ V, Below w.heap.size w V → V.cell? ⟨b, off + k * 2, none⟩ = some (.int .u8 (kd : Int)) ∧ V.cell? ⟨b, off + k * 2 + 1, none⟩ = some (.slice A l.length c')) :=
        fun V hV => ⟨(hV.cell (p := ⟨b, off + k * 2, none⟩) (lt_of_cell hc1)).trans hc1, (hV.cell (p := ⟨b, off + k * 2 + 1, none⟩) (lt_of_cell hc2)).trans hc2⟩
      have hc1' := (HSV.out _ hb).1
      have hc2' := (HSV.out _ hb).2
      clear hck hc1 hc2
      go_wp2_with fail
      have hkl : (KS k).length + [kd].length ≤ 1000000000 := by
        rw [HKS.out]
        show ((cs.take k).map _).length + _ ≤ _
        rw [List.length_map, List.length_take]; simp; omega
      have hdl : (DS k).length + 1 ≤ 1000000 := by
        rw [HDS.out]
        show ((cs.take k).map _).length + _ ≤ _
        rw [List.length_map, List.length_take]; omega
      have HKL := Lib.hid hkl
      have HDL := Lib.hid hdl
      clear hkl hdl
      have hlt3 := fun e => (ho.lt wr.heap.size e).2
      have hne3 : u3.ownBlock ≠ some wr.heap.size := fun e => by have := (ho.lt _ e).2; omega
      have hne3' : u3.ownBlock ≠ some (wr.heap.size + 1) := fun e => by have := (ho.lt _ e).2; omega
      have kK : ∀ V : World, (⟨V.heap.size, 0, none⟩ : Addr).block < (V.alloc (.cells #[.int .u8 (kd : Int)] 5)).heap.size := fun V => by simp
      have hal : ∀ (V : World) (o : Obj), Below V.heap.size V (V.alloc o) := fun V o => (Below.refl _ V).alloc (Nat.le_refl _) o
      have FA : PackAt w (wr.alloc (.cells #[.int .u8 (kd : Int)] 5)).drew u3 u4 (KS k) (DS k) wr.heap.size kd :=
        ⟨(ho.later (hal _ _)).drew, (hs.later (hal _ _)).drew, (hb.alloc hb.size _).drew, Txt.drew (txt_one wr _ kd rfl hkd)⟩
      have FB : PackAt w ((wr.alloc (.cells #[.int .u8 (kd : Int)] 5)).alloc (.cells #[.slice A l.length c'] 25)).drew u3 u4 (KS k) (DS k) wr.heap.size kd := FA.later (hal _ _)
      have FC : PackAt w ((wr.alloc (.cells #[.slice A l.length c'] 25)).alloc (.cells #[.int .u8 (kd : Int)] 5)).drew u3 u4 (KS k) (DS k) (wr.heap.size + 1) kd := by
        refine ⟨((ho.later (hal _ _)).later (hal _ _)).drew, ((hs.later (hal _ _)).later (hal _ _)).drew, ((hb.alloc hb.size _).alloc (Nat.le_trans hb.size (by simp)) _).drew, Txt.drew ?_⟩
        have h := txt_one (wr.alloc (.cells #[.slice A l.length c'] 25)) _ kd rfl hkd
        rw [World.size_alloc] at h
        exact h
      have cB : ((wr.alloc (.cells #[.int .u8 (kd : Int)] 5)).alloc (.cells #[.slice A l.length c'] 25)).drew.cell? ⟨wr.heap.size + 1, 0, none⟩ = some (.slice A l.length c') := by
        have h : ((wr.alloc (.cells #[.int .u8 (kd : Int)] 5)).alloc (.cells #[.slice A l.length c'] 25)).cell? ⟨(wr.alloc (.cells #[.int .u8 (kd : Int)] 5)).heap.size, 0, none⟩ = some (.slice A l.length c') := by rw [World.cell?_alloc_new]; rfl
        rw [World.size_alloc] at h
        exact h
      have cC : ((wr.alloc (.cells #[.slice A l.length c'] 25)).alloc (.cells #[.int .u8 (kd : Int)] 5)).drew.cell? ⟨wr.heap.size, 0, none⟩ = some (.slice A l.length c') := by
        have h : (wr.alloc (.cells #[.slice A l.length c'] 25)).cell? ⟨wr.heap.size, 0, none⟩ = some (.slice A l.length c') := by rw [World.cell?_alloc_new]; rfl
        exact ((hal _ _).cell (p := ⟨wr.heap.size, 0, none⟩) (lt_of_cell h)).trans h
      have gB : ∀ (w3 : World) (u : Value), ((wr.alloc (.cells #[.int .u8 (kd : Int)] 5)).alloc (.cells #[.slice A l.length c'] 25)).drew.grownBy w3 u3.ownBlock → w3.cell? ⟨wr.heap.size + 1, 0, none⟩ = some (.slice A l.length c') :=
        fun w3 u hg => (hg.cell_far ⟨wr.heap.size + 1, 0, none⟩ (lt_of_cell cB) (Ne.symm hne3')).trans cB
      have gC : ∀ (w3 : World) (u : Value), ((wr.alloc (.cells #[.slice A l.length c'] 25)).alloc (.cells #[.int .u8 (kd : Int)] 5)).drew.grownBy w3 u3.ownBlock → w3.cell? ⟨wr.heap.size, 0, none⟩ = some (.slice A l.length c') :=
        fun w3 u hg => (hg.cell_far ⟨wr.heap.size, 0, none⟩ (lt_of_cell cC) (Ne.symm hne3)).trans cC
      have GB := Lib.hid gB
      have GC := Lib.hid gC
      have HFA := Lib.hid FA
      have HFB := Lib.hid FB
      have HFC := Lib.hid FC
      have HO := Lib.hid ho
      have HBB := Lib.hid hb
      have TX0 := Lib.hid tx0
      have HAL := Lib.hid hal
      clear gB gC cB cC FA FB FC ho hb hs hal kK hne3 hne3' hlt3 tx0
      go_region_held3 (fun V => V.cell? ⟨b, off + k * 2, none⟩ = some (.int .u8 (kd : Int)) ∧ V.cell? ⟨b, off + k * 2 + 1, none⟩ = some (.slice A l.length c'))
        (first
          | exact HSV.out _ hb4
          | exact HSV.out _ hb3
          | exact HSV.out _ (hb3.alloc hb3.size _)
          | exact HSV.out _ HBB.out.drew
          | exact HSV.out _ HFA.out.bel
          | exact HSV.out _ HFB.out.bel
          | exact HSV.out _ HFC.out.bel
          | exact HSV.out _ (HBB.out.alloc HBB.out.size _).drew)
        (first
          | ((fail_if_success (have _y := h3)); refine step_appendA (by rfl) _ _ (by rfl) (by rfl) (.inl HFA.out.own) (by rfl) (by rfl) HFA.out.txt (by simp) HKL.out HFA.out.bel.size ?_; intro v3 w3 h3 hg3 _; have hs3 := HFA.out.sl.keptB HFA.out.own hg3; have hb3 := HFA.out.bel.grown hg3 HFA.out.bel.size (fun b hb => (HFA.out.own.lt b hb).1))
          | ((fail_if_success (have _y := h3)); refine step_appendA (by rfl) _ _ (by rfl) (by rfl) (.inl HFB.out.own) (by rfl) (by rfl) HFB.out.txt (by simp) HKL.out HFB.out.bel.size ?_; intro v3 w3 h3 hg3 _; have hs3 := HFB.out.sl.keptB HFB.out.own hg3; have hb3 := HFB.out.bel.grown hg3 HFB.out.bel.size (fun b hb => (HFB.out.own.lt b hb).1); have hc3 := GB.out w3 v3 hg3)
          | ((fail_if_success (have _y := h3)); refine step_appendA (by rfl) _ _ (by rfl) (by rfl) (.inl HFC.out.own) (by rfl) (by rfl) HFC.out.txt (by simp) HKL.out HFC.out.bel.size ?_; intro v3 w3 h3 hg3 _; have hs3 := HFC.out.sl.keptB HFC.out.own hg3; have hb3 := HFC.out.bel.grown hg3 HFC.out.bel.size (fun b hb => (HFC.out.own.lt b hb).1); have hc3 := GC.out w3 v3 hg3)
          | (have _y := hc3; refine step_appendS (by rfl) _ _ (by rfl) (by rfl) hs3 l A c' TX0.out (by rfl) (row_of_cell hc3) HDL.out hb3.size ?_; intro v4 w4 h4 hg4; have h3' := h3.keptS hs3 hg4; have hb4 := hb3.grown hg4 hb3.size (fun b hb => (hs3.lt b hb).1))
          | (have _y := h3; refine step_appendS (by rfl) _ _ (by rfl) (by rfl) (hs3.later (HAL.out w3 _)) l A c' TX0.out (by rfl) (row_newS w3 _) HDL.out (hb3.alloc hb3.size _).size ?_; intro v4 w4 h4 hg4; have h3' := (h3.later (HAL.out w3 _)).keptS (hs3.later (HAL.out w3 _)) hg4; have hb4 := (hb3.alloc hb3.size _).grown hg4 (hb3.alloc hb3.size _).size (fun b hb => (hs3.lt b hb).1)))
      all_goals
        rw [← HSK.out] at h3'
        rw [← HSD.out] at h4
        clear h3 hs3 hg3 hg4
        go_wp2_with fail
        go_roundw
        case rel => exact ⟨k + 1, by omega, by go_num, h3', h4, hb4⟩
        case measure => simp [intOf]; omega
    · obtain rfl : k = n := by omega
      have hkk : KS k = cs.map (·.1) := by rw [HKS.out]; show (cs.take k).map _ = _; rw [List.take_of_length_le (by rw [HN.out]; exact Nat.le_refl _)]
      have hdd : DS k = cs.map (·.2) := by rw [HDS.out]; show (cs.take k).map _ = _; rw [List.take_of_length_le (by rw [HN.out]; exact Nat.le_refl _)]
      rw [hkk] at ho
      rw [hdd] at hs
      clear hkk hdd
      obtain ⟨ka, kc, rfl, _, _, tk⟩ := ho.txt
      obtain ⟨da, dc, rfl, _, _, sd⟩ := hs.form hb
      have e1 : (cs.map (·.1)).length = k := by rw [List.length_map]; exact HN.out
      have e2 : (cs.map (·.2)).length = k := by rw [List.length_map]; exact HN.out
      have HP := Lib.hid (HPK.out ka da kc dc wr tk sd)
      have HB := Lib.hid hb
      rw [e1, e2]
      clear ho hs tk sd hb e1 e2
      go_wp2_with fail
      refine HP.out.mono ?_
      rintro e w5 ⟨v5, rfl, h5, hb5⟩
      have hbw := HB.out.trans (hb5.mono HB.out.size)
      have H5 : Hid (OwnB w5 w.heap.size v5 B) := ⟨h5.1, ownsRow_base h5.2 HB.out.size⟩
      clear h5
      go_wp2_with fail
      go_ret
      exact ⟨v5, rfl, H5.out, hbw⟩

end Go.Proofs.Ytjnfnocmjpboiaa
