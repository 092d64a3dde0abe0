/-
  Layer 7 (box): the law BoxApart.
-/
import Derived.Test.YtjnfnocmjpboiaaBoxLaw3
import Derived.Test.YtjnfnocmjpboiaaOwnMore
namespace Go.Proofs.Ytjnfnocmjpboiaa
open Go.RowKit
open CrcMath BoxMath

/-- Where a part lies that is owned, at a place that is known. -/
theorem PartsOwn.place {w : World} {base bm om n c : Nat} {ps : List Part} (h : PartsOwn w base (.slice (some ⟨bm, om, none⟩) n c) ps) {i : Nat} {p : Part} (hi : ps[i]? = some p) :
    ∃ dv, w.cell? ⟨bm, om + i * 4 + 1, none⟩ = some dv ∧ OwnB w base dv p.data ∧ dv.ownBlock ≠ some bm := by
  obtain ⟨qs, e1, h2, h3⟩ := h
  obtain ⟨_, _, e', _, _⟩ := ownsRow_form h2
  injection e' with _ en _
  subst en
  rw [← e1, List.getElem?_map] at hi
  obtain ⟨q, hq, rfl⟩ := Option.map_eq_some_iff.1 hi
  have hf := flat_at (fun q : Part × Value => pcells q.1 q.2) 4 (fun _ => rfl) qs i
  have hr := Row.own h2
  have hpos : 0 < (qs.flatMap fun q => pcells q.1 q.2).length := by
    have := hf 0 q hq (by omega)
    rw [show (pcells q.1 q.2)[0]? = some (.int .u8 (q.1.kind : Int)) from rfl] at this
    have := (List.getElem?_eq_some_iff.1 this).1
    omega
  obtain ⟨b, off, e, hc⟩ := hr hpos
  injection e with e
  injection e with ea eb _
  subst ea eb
  have hm := List.mem_of_getElem? hq
  refine ⟨q.2, hc (i * 4 + 1) _ (hf 1 q hq (by omega)), (h3 q hm).1, ?_⟩
  rcases row_ne (h3 q hm).1.2 h2 (by decide) with hn | hn
  · rw [hn]; simp
  · exact hn

/-- A byte is written into a data block: the parts are owned as before, their data as long as before. -/
theorem PartsOwn.poke {w : World} {base bm om n c : Nat} {ps : List Part} (h : PartsOwn w base (.slice (some ⟨bm, om, none⟩) n c) ps) (g k u : Nat) (hu : u < 256) (hg : some g ≠ some bm) :
    ∃ ps', PartsOwn (w.setCell ⟨g, k, none⟩ (.int .u8 (u : Int))) base (.slice (some ⟨bm, om, none⟩) n c) ps' ∧ ps'.length = ps.length ∧ ∀ (i : Nat) (p p' : Part), ps[i]? = some p → ps'[i]? = some p' → p'.data.length = p.data.length := by
  obtain ⟨qs, e1, h2, h3⟩ := h
  let f : Part × Value → Part × Value := fun q => ({ kind := q.1.kind, data := if q.2.ownBlock = some g then q.1.data.set k u else q.1.data, at_ := q.1.at_, whole := q.1.whole }, q.2)
  have hlen : ((qs.map f).map (·.1)).length = ps.length := by rw [List.length_map, List.length_map, ← e1, List.length_map]
  refine ⟨(qs.map f).map (·.1), ⟨qs.map f, rfl, ?_, ?_⟩, hlen, ?_⟩
  · have hfm : ((qs.map f).flatMap fun q => pcells q.1 q.2) = qs.flatMap fun q => pcells q.1 q.2 := by
      rw [List.flatMap_map]
      rfl
    rw [hfm, hlen]
    exact h2.kept (grownBy_set w g k _) (.inr fun e => hg (by rw [← e]; rfl))
  · intro q hq
    obtain ⟨r, hr, rfl⟩ := List.mem_map.1 hq
    refine ⟨?_, (h3 r hr).2⟩
    have ho := (h3 r hr).1
    show OwnB _ base r.2 (if r.2.ownBlock = some g then r.1.data.set k u else r.1.data)
    by_cases hb : r.2.ownBlock = some g
    · rw [if_pos hb]
      have ho2 := ho.2
      rcases ho2.2 with ⟨hv, _⟩ | ⟨g', cap', cur, hv, _⟩
      · rw [hv] at hb; cases hb
      · rw [hv] at hb ho ⊢
        have : g' = g := by simpa [Value.ownBlock] using hb
        subst this
        exact ho.set k u hu
    · rw [if_neg hb]
      exact ho.kept (grownBy_set w g k _) (.inr hb)
  · intro i p p' hp hp'
    rw [← e1, List.getElem?_map] at hp
    rw [List.getElem?_map, List.getElem?_map] at hp'
    obtain ⟨q, hq, rfl⟩ := Option.map_eq_some_iff.1 hp
    rw [hq] at hp'
    simp only [Option.map_some, Option.some.injEq] at hp'
    subst hp'
    show (if q.2.ownBlock = some g then q.1.data.set k u else q.1.data).length = _
    split
    · rw [List.length_set]
    · rfl

/-- A store into a block that lies below leaves the parts as they were. -/
theorem PartsOwn.far {w : World} {base : Nat} {v : Value} {ps : List Part} (h : PartsOwn w base v ps) (g i : Nat) (x : Value) (hg : g < base) : PartsOwn (w.setCell ⟨g, i, none⟩ x) base v ps := by
  obtain ⟨qs, h1, h2, h3⟩ := h
  refine ⟨qs, h1, h2.kept (grownBy_set w g i x) (.inr fun e => ?_), fun q hq => ⟨(h3 q hq).1.kept (grownBy_set w g i x) (.inr fun e => ?_), (h3 q hq).2⟩⟩
  · have := (h2.lt g e).1; omega
  · have := ((h3 q hq).1.lt g e).1; omega

set_option maxRecDepth 10000 in
set_option maxHeartbeats 4000000 in
theorem boxApart_small (a : Option Addr) (n c by_ : Nat) (cs : List (Nat × List Nat)) (w : World) (hn : cs.length = n) (h : Chunks w a cs) (hg : greatB cs = false) (hby : by_ < 256) :
    Calls Try.prog 9 #[.slice a n c, .int .u8 (by_ : Int)] w fun e w' => e = .returned (.bool true) ∧ Below w.heap.size w w' := by
  have HAW := Lib.hid (awake_any w)
  have HGR := Lib.hid (fun (V : World) (hV : Below w.heap.size w V) => great_any a n c cs V hn (h.below hV))
  rw [hg] at HGR
  obtain ⟨h12, h100, hd⟩ := small_of hg
  have h32 : ∀ c ∈ cs, c.2.length < 4294967296 := fun c hc => by have := h100 c hc; omega
  have HP := Lib.hid (fun (V : World) (hV : Below w.heap.size w V) => pack_any a n c cs V hn (by omega) (by omega) (h.below hV))
  have HL := Lib.hid (fun (V : World) (hV : Below w.heap.size w V) => lawPack_any a n c cs V hn (by omega) (by omega) (h.below hV))
  have HO := Lib.hid (fun (A : Option Addr) (C : Nat) (V : World) (h1 : (boxOf cs).length ≤ C) (h2 : C ≤ maxLen) (t : Txt V A (boxOf cs)) => open_any A C (boxOf cs) V h1 h2 (by rw [boxOf_len]; omega) t)
  rw [opened_box (show cs.length < 65536 by omega)] at HO
  have HPA : Hid (∀ (i : Nat) (c : Nat × List Nat), cs[i]? = some c → (partsBox cs)[i]? = some { kind := c.1, data := c.2, at_ := ((18 + 9 * n + (dataOf (cs.take i)).length : Nat) : Int), whole := true }) := fun i c h => by rw [← hn]; exact partsBox_at h32 h
  have HPL : Hid ((partsBox cs).length = n) := by show _ = _; rw [partsBox_len, hn]
  have HO' : Hid (∀ (A : Option Addr) (C : Nat) (V : World), (boxOf cs).length ≤ C → C ≤ maxLen → Txt V A (boxOf cs) → Calls Try.prog 15 #[.slice A (boxOf cs).length C] V (OpenIs V (some (partsBox cs)))) := HO.out
  have hbl : (boxOf cs).length = 36 + 18 * n + (dataOf cs).length := by rw [boxOf_len, hn]
  have hpos : 0 < (boxOf cs).length := by omega
  have hle : (boxOf cs).length ≤ 2000 := by omega
  have HLE := Lib.hid hle
  have HN := Lib.hid hn
  have HX := Lib.hid h
  have H100 := Lib.hid h100
  have hn12 : n ≤ 12 := by omega
  clear hg h h100 h32 HO hn hbl hd h12
  generalize boxOf cs = B at *
  generalize partsBox cs = ps at *
  go_enter Try.func9, Try.ntmps9
  go_wp2_with fail
  refine HAW.out.mono ?_
  rintro e w1 ⟨rfl, hb1⟩
  go_wp2_with fail
  refine (HGR.out _ hb1).mono ?_
  rintro e w' ⟨rfl, rfl⟩
  go_wp2_with fail
  refine (HP.out _ hb1).mono ?_
  rintro e w2 ⟨v2, rfl, ho2, hb2⟩
  obtain ⟨g2, c2, rfl, hc2, hm2, hg2, hg2'⟩ := ho2.form hpos
  have t2 := ho2.read
  have hbw2 := hb1.trans (hb2.mono hb1.size)
  have k2 := run_convert_str t2 c2
  have HO2 := Lib.hid (HO'.out _ c2 w2 hc2 hm2 t2)
  have T2 := Lib.hid t2
  have HW2 := Lib.hid hbw2
  have HOB : Hid (OwnB w2 w.heap.size (.slice (some ⟨g2, 0, none⟩) B.length c2) B) := ⟨ho2.1, ownsRow_base ho2.2 hb1.size⟩
  have HC2 := Lib.hid hc2
  have HT2 : Hid (∀ V, Below w2.heap.size w2 V → Txt V (some ⟨g2, 0, none⟩) B) := fun V hV => t2.below hV
  have hg2w := Nat.le_trans hb1.size hg2
  clear hb1 hb2 ho2 t2 hbw2
  go_wp2_with fail
  refine HO2.out.mono ?_
  rintro e w3 ⟨hb3, v3, rfl, hp⟩
  obtain ⟨a3, c3, rfl, hv1, hv2, _⟩ := hp.form
  rw [HPL.out] at hv1 hp ⊢
  have HP3 := Lib.hid hp
  have HB3 := Lib.hid hb3
  clear hp hb3 k2
  go_wp2_with fail
  go_loopw [10, 11] (fun i _ wr => ∃ k : Nat, k ≤ n ∧ i = .int .i64 k ∧ Below w2.heap.size w2 wr ∧ ∃ qs, PartsOwn wr w2.heap.size (.slice a3 n c3) qs ∧ qs.length = n ∧ ∀ (j : Nat) (q : Part), qs[j]? = some q → q.data.length ≤ 100) (fun i _ _ => n - (intOf i).toNat)
  case atStart =>
    refine ⟨0, by omega, rfl, HB3.out, ps, HP3.out, HPL.out, fun j q hq => ?_⟩
    have hj : j < n := by rw [← HPL.out]; exact (List.getElem?_eq_some_iff.1 hq).1
    obtain ⟨x, hx⟩ : ∃ x, cs[j]? = some x := ⟨cs[j]'(by rw [HN.out]; exact hj), List.getElem?_eq_getElem _⟩
    have := HPA.out j x hx
    rw [hq] at this
    injection this with this
    rw [this]
    exact H100.out x (List.mem_of_getElem? hx)
  case round =>
    obtain ⟨k, hk, rfl, hb, qs, hq, hql, hq100⟩ := hrel
    by_cases hkn : k < n
    · obtain ⟨q, hqk⟩ : ∃ q, qs[k]? = some q := ⟨qs[k]'(by rw [hql]; exact hkn), List.getElem?_eq_getElem _⟩
      obtain ⟨a', c', e', _, _, hat⟩ := hq.form
      rw [hql] at e'
      injection e' with ea _ ec
      subst ea ec
      obtain ⟨_, bm, om, _, rfl, _⟩ := hat k q hqk
      have hlen := hq100 k q hqk
      have HQ0 := Lib.hid hq
      have HQL := Lib.hid hql
      have HQK := Lib.hid hqk
      have HQH := Lib.hid hq100
      have HBB := Lib.hid hb
      clear hat hq hql hqk hq100 hb
      go_wp2_with fail
      go_loopw [11] (fun i wr => ∃ j : Nat, j ≤ q.data.length ∧ i = .int .i64 j ∧ Below w2.heap.size w2 wr ∧ ∃ qs', PartsOwn wr w2.heap.size (.slice (some ⟨bm, om, none⟩) n c3) qs' ∧ qs'.length = n ∧ (∀ (j : Nat) (q q' : Part), qs[j]? = some q → qs'[j]? = some q' → q'.data.length = q.data.length)) (fun i _ => q.data.length - (intOf i).toNat)
      case atStart =>
        refine ⟨0, by omega, rfl, HBB.out, qs, HQ0.out, HQL.out, fun j q q' h1 h2 => ?_⟩
        rw [h1] at h2
        injection h2 with h2
        rw [h2]
      case round =>
        obtain ⟨j, hj, rfl, hb, qs', hq', hql', hqq⟩ := hrel
        obtain ⟨q', hqk'⟩ : ∃ q', qs'[k]? = some q' := ⟨qs'[k]'(by rw [hql']; exact hkn), List.getElem?_eq_getElem _⟩
        have hl' := hqq k q q' HQK.out hqk'
        obtain ⟨dv, hcell, hod, hne⟩ := hq'.place hqk'
        have HQ1 := Lib.hid hq'
        have HQL1 := Lib.hid hql'
        have HQQ := Lib.hid hqq
        have HBB1 := Lib.hid hb
        by_cases hjl : j < q.data.length
        · obtain ⟨g, cg, rfl, hcg, hcg2, hgb, hgl⟩ := hod.form (by omega)
          obtain ⟨u, hu⟩ : ∃ u, q'.data[j]? = some u := ⟨_, List.getElem?_eq_getElem (by omega)⟩
          have c0 := hod.cell hu
          have f0 := hod.thawed j
          have hpk := hq'.poke g j by_ hby hne
          obtain ⟨qs2, p1, p2, p3⟩ := hpk
          have hb1 := hb.setCell (p := ⟨g, j, none⟩) hgb (.int .u8 (by_ : Int))
          rw [hl'] at hcell hcg
          have P1 := Lib.hid p1
          have P2 := Lib.hid p2
          have P3 := Lib.hid p3
          have B1 := Lib.hid hb1
          clear hu hod hq' hql' hqq hb hne p1 p2 p3 hb1 hqk' hl'
          go_wp2_with fail
          go_roundw
          case rel =>
            refine ⟨j + 1, by omega, by go_num, B1.out, qs2, P1.out, P2.out.trans HQL1.out, fun i r r2 h1 h2 => ?_⟩
            obtain ⟨r1, hr1⟩ : ∃ r1, qs'[i]? = some r1 := ⟨qs'[i]'(by
              have := (List.getElem?_eq_some_iff.1 h2).1
              have h3 := P2.out
              omega), List.getElem?_eq_getElem _⟩
            rw [P3.out i r1 r2 hr1 h2, HQQ.out i r r1 h1 hr1]
          case measure => simp [intOf]; omega
        · have hjl2 : j = q.data.length := by omega
          obtain ⟨ad, cd, rfl, hcd, hcd2, _⟩ := hod.txt
          rw [hl'] at hcell
          clear hod hq' hql' hqq hb hne hqk' hl'
          go_wp2_with fail
          go_roundw
          case rel =>
            refine ⟨k + 1, by omega, by go_num, HBB1.out, qs', HQ1.out, HQL1.out, fun i r' h2 => ?_⟩
            obtain ⟨r, hr⟩ : ∃ r, qs[i]? = some r := ⟨qs[i]'(by
              have := (List.getElem?_eq_some_iff.1 h2).1
              have h3 := HQL.out
              have h4 := HQL1.out
              omega), List.getElem?_eq_getElem _⟩
            rw [HQQ.out i r r' hr h2]
            exact HQH.out i r hr
          case measure => simp [intOf]; omega
    · obtain rfl : k = n := by omega
      have T2w := HT2.out _ hb
      have k2w := run_convert_str T2w c2
      have HB5 := Lib.hid hb
      generalize wr = W5 at *
      have HO5 := Lib.hid (HO'.out _ c2 W5 HC2.out hm2 T2w)
      have HOB5 := Lib.hid (HOB.out.later hb)
      clear hq hql hq100 hb T2w
      go_wp2_with fail
      refine HO5.out.mono ?_
      rintro e w6 ⟨hb6, v6, rfl, hp⟩
      obtain ⟨a6, c6, rfl, hv61, hv62, _⟩ := hp.form
      rw [HPL.out] at hv61 hp ⊢
      have HP6 := Lib.hid hp
      have HB6 := Lib.hid hb6
      have HOB6 := Lib.hid (HOB5.out.later hb6)
      clear hp hb6 k2w
      go_wp2_with fail
      have hg26 : g2 < W5.heap.size := Nat.lt_of_lt_of_le hg2' HB5.out.size
      have HB26 := Lib.hid (HW2.out.trans ((HB5.out.trans (HB6.out.mono HB5.out.size)).mono HW2.out.size))
      go_loopw [12] (fun i wr => ∃ m : Nat, m ≤ B.length ∧ i = .int .i64 m ∧ Below w.heap.size w wr ∧ PartsOwn wr W5.heap.size (.slice a6 k c6) ps ∧ ∃ l', OwnB wr w.heap.size (.slice (some ⟨g2, 0, none⟩) B.length c2) l' ∧ l'.length = B.length) (fun i _ => B.length - (intOf i).toNat)
      case atStart => exact ⟨0, by omega, rfl, HB26.out, HP6.out, B, HOB6.out, rfl⟩
      case round =>
        obtain ⟨m, hm, rfl, hb, hp, l', hob, hl'⟩ := hrel
        by_cases hmB : m < B.length
        · obtain ⟨u, hu⟩ : ∃ u, l'[m]? = some u := ⟨_, List.getElem?_eq_getElem (by omega)⟩
          have c0 := hob.cell hu
          have f0 := hob.thawed m
          have ho1 := hob.set m by_ hby
          have hp1 := hp.far g2 m (.int .u8 (by_ : Int)) hg26
          have hb1 := hb.setCell (p := ⟨g2, m, none⟩) hg2w (.int .u8 (by_ : Int))
          have P1 := Lib.hid hp1
          have O1 := Lib.hid ho1
          have B1 := Lib.hid hb1
          clear hu hob hp hb hp1 ho1 hb1
          go_wp2_with fail
          go_roundw
          case rel => exact ⟨m + 1, by omega, by go_num, B1.out, P1.out, _, O1.out, by rw [List.length_set]; exact hl'⟩
          case measure => simp [intOf]; omega
        · obtain rfl : m = B.length := by omega
          obtain ⟨a', c', e', _, _, hat⟩ := hp.form
          rw [HPL.out] at e'
          injection e' with ea _ ec
          subst ea ec
          have HAT := Lib.hid hat
          have HB7 := Lib.hid hb
          clear hat hp hb hob
          go_wp2_with fail
          go_loopw [13] (fun i wt => ∃ j : Nat, j ≤ k ∧ i = .int .i64 j ∧ Below wr.heap.size wr wt) (fun i _ => k - (intOf i).toNat)
          case atStart => exact ⟨0, by omega, rfl, Below.refl _ _⟩
          case round =>
            obtain ⟨j, hj, rfl, hb⟩ := hrel
            by_cases hjk : j < k
            · obtain ⟨⟨kd, l⟩, hck⟩ : ∃ x, cs[j]? = some x := ⟨cs[j]'(by rw [HN.out]; exact hjk), List.getElem?_eq_getElem _⟩
              have hll : l.length ≤ 100 := H100.out _ (List.mem_of_getElem? hck)
              obtain ⟨hkd, b, off, A, c', rfl, hc0, hc1, hlc, hcc, tx0⟩ := HX.out j kd l hck
              obtain ⟨_, bm, om, dv, rfl, hq0, hq1, hq2, hq3, hod⟩ := HAT.out j _ (HPA.out j _ hck)
              obtain ⟨Am, cm, rfl, hlm, hcm, tm0⟩ := hod.txt
              have hbw := HB7.out.trans (hb.mono HB7.out.size)
              have e1 := (hbw.cell (p := ⟨b, off + j * 2 + 1, none⟩) (lt_of_cell hc1)).trans hc1
              have g1 := (hb.cell (p := ⟨bm, om + j * 4 + 1, none⟩) (lt_of_cell hq1)).trans hq1
              have tx := tx0.below hbw
              have tm := tm0.below hb
              have HB := Lib.hid hb
              have k1 := fun m => run_convert_str (w := wr.drewN m) tx c'
              have k2 := fun m => run_convert_str (w := wr.drewN m) tm cm
              clear hck hc0 hc1 hq0 hq1 hq2 hq3 hod tx0 tm0 tx tm hb hbw
              go_wp2_with fail
              go_quiet (fail)
              go_wp2_with fail
              go_roundw
              case rel => exact ⟨j + 1, by omega, by go_num, below_drewN HB.out _⟩
              case measure => simp [intOf]; omega
            · obtain rfl : j = k := by omega
              have HBW := Lib.hid (HB7.out.trans (hb.mono HB7.out.size))
              clear hb
              go_wp2_with fail
              refine (HL.out _ HBW.out).mono ?_
              rintro e w8 ⟨v8, rfl, ho8, hb8⟩
              obtain ⟨A8, c8, rfl, _, _, t8⟩ := ho8.txt
              have k8 := run_convert_str t8 c8
              clear ho8 t8
              go_wp2_with fail
              go_ret
              exact ⟨rfl, HBW.out.trans (hb8.mono HBW.out.size)⟩

set_option maxRecDepth 10000 in
set_option maxHeartbeats 2000000 in
theorem boxApart_all (a : Option Addr) (n c by_ : Nat) (cs : List (Nat × List Nat)) (w : World) (hn : cs.length = n) (h : Chunks w a cs) (hby : by_ < 256) :
    Calls Try.prog 9 #[.slice a n c, .int .u8 (by_ : Int)] w fun e w' => e = .returned (.bool true) ∧ Below w.heap.size w w' := by
  by_cases hg : greatB cs = true
  · have HAW := Lib.hid (awake_any w)
    have HGR := Lib.hid (fun (V : World) (hV : Below w.heap.size w V) => great_any a n c cs V hn (h.below hV))
    rw [hg] at HGR
    go_enter Try.func9, Try.ntmps9
    go_wp2_with fail
    refine HAW.out.mono ?_
    rintro e w1 ⟨rfl, hb1⟩
    go_wp2_with fail
    refine (HGR.out _ hb1).mono ?_
    rintro e w' ⟨rfl, rfl⟩
    go_wp2_with fail
    go_ret
    exact ⟨rfl, hb1⟩
  · exact boxApart_small a n c by_ cs w hn h (by rw [Bool.not_eq_true] at hg; exact hg) hby

end Go.Proofs.Ytjnfnocmjpboiaa
