/-
  Layer 7 (box): parts, the walk.
-/
import Derived.Test.YtjnfnocmjpboiaaBoxParts
import Derived.Test.YtjnfnocmjpboiaaSub
import Derived.Deep.RegionWith
namespace Go.Proofs.Ytjnfnocmjpboiaa
open Go.RowKit
open CrcMath BoxMath

theorem parts_start {t : List Nat} {at0 : Int} {i : Nat} : startOf t at0 (i + 1) = startOf t at0 i + (tellLen t i : Nat) := by
  unfold startOf
  show at0 + ((lens t i + tellLen t i : Nat) : Int) = _
  omega

theorem slices2 (W : World) (A1 A2 : Option Addr) (c1 c2 n1 n2 : Nat) (l1 l2 : List Nat) (e1 : l1.length = n1) (e2 : l2.length = n2) (t1 : Txt W A1 l1) (t2 : Txt W A2 l2) :
    Slices (W.alloc (.cells #[.slice A1 n1 c1, .slice A2 n2 c2] 25)) (some ⟨W.heap.size, 0, none⟩) [l1, l2] := by
  subst e1 e2
  have hb := (Below.refl W.heap.size W).alloc (Nat.le_refl _) (.cells #[.slice A1 l1.length c1, .slice A2 l2.length c2] 25)
  intro i l hi
  match i, hi with
  | 0, hi => simp at hi; subst hi; exact ⟨_, _, A1, c1, rfl, by rw [World.cell?_alloc_new]; rfl, t1.below hb⟩
  | 1, hi => simp at hi; subst hi; exact ⟨_, _, A2, c2, rfl, by rw [World.cell?_alloc_new]; rfl, t2.below hb⟩
  | n + 2, hi => simp at hi
theorem Slices.drew {w : World} {a : Option Addr} {ls : List (List Nat)} (h : Slices w a ls) : Slices w.drew a ls := h

/-- A new block of one part: what is appended. -/
theorem row_new (V : World) (kd : Nat) (z : Int) (wh : Bool) (p : Part) (dv : Value) (h : p.kind = kd ∧ p.at_ = z ∧ p.whole = wh) (h1 : dv.oneCell' = true) :
    Row (V.alloc (.cells #[.int .u8 (kd : Int), dv, .int .i64 z, .bool wh] 38)) (some ⟨V.heap.size, 0, none⟩) (pcells p dv) ∧ ∀ u ∈ pcells p dv, u.oneCell' = true := by
  obtain ⟨rfl, rfl, rfl⟩ := h
  refine ⟨fun _ => ⟨_, _, rfl, fun j u hj => ?_⟩, fun u hu => ?_⟩
  · rw [World.cell?_alloc_new]
    match j, hj with
    | 0, hj | 1, hj | 2, hj | 3, hj => simp [pcells] at hj; subst hj; rfl
    | n + 4, hj => simp [pcells] at hj
  · simp [pcells] at hu
    rcases hu with rfl | rfl | rfl | rfl
    · rfl
    · exact h1
    · rfl
    · rfl

theorem PartsOwn.base {w : World} {base base' : Nat} {v : Value} {ps : List Part} (h : PartsOwn w base v ps) (hb : base' ≤ base) : PartsOwn w base' v ps := by
  obtain ⟨qs, h1, h2, h3⟩ := h
  exact ⟨qs, h1, ownsRow_base h2 hb, fun q hq => ⟨⟨(h3 q hq).1.1, ownsRow_base (h3 q hq).1.2 hb⟩, (h3 q hq).2⟩⟩

theorem OwnB.oneCell {w : World} {base : Nat} {v : Value} {l : List Nat} (h : OwnB w base v l) : v.oneCell' = true := by
  obtain ⟨a, c, rfl, _⟩ := h.txt
  rfl

set_option maxHeartbeats 8000000 in
theorem parts_any (a at_ : Option Addr) (c ct : Nat) (lb t : List Nat) (at0 : Int) (N : Nat) (w : World) (hc : lb.length ≤ c) (hc2 : c ≤ maxLen) (hl : lb.length ≤ 4194304) (h : Txt w a lb)
    (hct : t.length ≤ ct) (hct2 : ct ≤ maxLen) (ht : Txt w at_ t) (hN : t.length = 9 * N + 4) (hN2 : N ≤ 65536) (ha1 : -562949953421312 ≤ at0) (ha2 : at0 ≤ 1099511627776) :
    Calls Try.prog 24 #[.slice a lb.length c, .slice at_ t.length ct, .int .i64 at0] w fun e w' => ∃ v, e = .returned v ∧ PartsOwn w' w.heap.size v (partsOf lb t at0 N) ∧ Below w.heap.size w w' := by
  unfold maxLen at hc2 hct2
  obtain ⟨bt, ot, rfl, htc⟩ := ht.at_ (by omega)
  obtain ⟨Z, hZ⟩ : ∃ Z : Nat → Int, Z = startOf t at0 := ⟨_, rfl⟩
  have HZ := Lib.hid hZ
  have HZ0 : Hid (Z 0 = at0) := by show _ = _; rw [hZ]; simp [startOf, lens]
  have HZB : Hid (∀ k, k ≤ N → -562949953421312 ≤ Z k ∧ Z k ≤ 1099511627776 + 281474976710656) := fun k hk => by
    rw [hZ]; unfold startOf
    have := lens_le ht.1 k
    omega
  have HH := Lib.hid h
  have HTT := Lib.hid ht
  have HTC := Lib.hid htc
  have HNN := Lib.hid hN
  have hq : ((t.length : Int) - 4) / 9 = (N : Int) := by omega
  have hq0 : (0 : Int) ≤ (t.length : Int) - 4 := by omega
  have htl : 9 * N + 4 ≤ t.length := by omega
  clear h ht htc hZ hN
  go_enter Try.func24, Try.ntmps24
  go_wp2_with fail
  simp only [hq]
  clear hq
  go_loopw [2, 7, 8, 9, 10, 11, 16] (fun x v _ _ _ _ i wr => ∃ k : Nat, k ≤ N ∧ i = .int .i64 k ∧ x = .int .i64 (Z k) ∧ PartsOwn wr w.heap.size v (partsOf lb t at0 k) ∧ Below w.heap.size w wr) (fun _ _ _ _ _ _ i _ => N - (intOf i).toNat)
  case atStart => exact ⟨0, by omega, rfl, by rw [HZ0.out], PartsOwn.nil w _, Below.refl _ _⟩
  case round =>
    obtain ⟨k, hk, rfl, rfl, ho, hb⟩ := hrel
    by_cases hkN : k < N
    · have hzb := HZB.out k hk
      have hsz := hb.size
      have hrow0 : ∃ u, t[9 * k]? = some u := ⟨t[9 * k]'(by omega), List.getElem?_eq_getElem _⟩
      obtain ⟨kd, hkd⟩ := hrow0
      have hkd8 := HTT.out.1 kd (List.mem_of_getElem? hkd)
      have hc0 := (hb.cell (p := ⟨bt, ot + 9 * k, none⟩) (lt_of_cell (HTC.out _ _ hkd))).trans (HTC.out _ _ hkd)
      have hrl : tellLen t k < 4294967296 := tellLen_lt HTT.out.1 k
      have tr : Txt w (some ⟨bt, ot + 9 * k + 1, none⟩) ((t.drop (9 * k + 1)).take 4) := (HTT.out.drop _).take _
      have hrlen : ((t.drop (9 * k + 1)).take 4).length = 4 := by rw [List.length_take, List.length_drop]; omega
      have HTo := Lib.hid (fun (w' : World) (hb' : Below w.heap.size w w') (c' : Nat) => told_any (some ⟨bt, ot + 9 * k + 1, none⟩) c' ((t.drop (9 * k + 1)).take 4) w' (by omega) (tr.below hb'))
      rw [hrlen] at HTo
      change Hid (∀ (w' : World) (hb' : Below w.heap.size w w') (c' : Nat), Calls _ _ _ w' fun e w'' => e = .returned (.int .i64 (tellLen t k : Nat)) ∧ w' = w'') at HTo
      have HPk : Hid (partsOf lb t at0 (k + 1) = partsOf lb t at0 k ++ [partOf lb t at0 k]) := partsOf_succ lb t at0 k
      have HZS : Hid (Z (k + 1) = Z k + (tellLen t k : Nat)) := by show _ = _; rw [HZ.out]; exact parts_start
      have HKD := Lib.hid hkd
      clear tr hrlen hkd
      generalize hrl2 : tellLen t k = q at *
      have HQ := Lib.hid hrl2
      clear hrl2
      generalize hzk : Z k = z at *
      have HZK := Lib.hid hzk
      clear hzk
      go_wp2_with fail
      refine (HTo.out _ (hb.alloc hb.size _) _).mono ?_
      rintro e w' ⟨rfl, rfl⟩
      have hbV := (Below.refl wr.heap.size wr).alloc (Nat.le_refl _) (.cells #[.int .u8 (kd : Int), .slice none 0 0, .int .i64 z, .bool false] 38)
      by_cases hin : 0 ≤ z ∧ z + (q : Nat) ≤ (lb.length : Int)
      · obtain ⟨hz0, hzq⟩ := hin
        obtain ⟨z', rfl⟩ := Int.eq_ofNat_of_zero_le hz0
        have hd1 : decide ((0 : Int) ≤ (z' : Int)) = true := by rw [decide_eq_true_iff]; omega
        have hd2 : decide ((z' : Int) + (q : Int) ≤ (lb.length : Int)) = true := by rw [decide_eq_true_iff]; exact hzq
        obtain ⟨As, hsl, tsl⟩ := run_sub lb.length c rfl hc (by unfold maxLen; exact hc2) z' (z' + q) (by omega) (by omega) HH.out (z' : Int) ((z' : Int) + (q : Int)) rfl (by omega)
        rw [Nat.add_sub_cancel_left] at hsl tsl
        have trw : Txt w (some ⟨bt, ot + 9 * k + 5, none⟩) ((t.drop (9 * k + 5)).take 4) := (HTT.out.drop _).take _
        have HSL := Lib.hid hsl
        have HTS := Lib.hid tsl
        have HTR := Lib.hid trw
        clear hsl tsl trw
        have hsl := HSL.out
        have hwb : wholeB lb t at0 k = right ((lb.drop z').take q ++ (t.drop (9 * k + 5)).take 4) := by
          unfold wholeB
          rw [← HZ.out, HZK.out, HQ.out, hd1, hd2, Int.toNat_natCast]; rfl
        have HWB := Lib.hid hwb
        clear hwb
        have hl1 : ((lb.drop z').take q).length = q := by rw [List.length_take, List.length_drop]; omega
        have hl2 : ((t.drop (9 * k + 5)).take 4).length = 4 := by rw [List.length_take, List.length_drop]; omega
        have hc5 := concat_any _ 2 2 _ _ rfl (by omega) (by simp only [List.flatten_cons, List.flatten_nil, List.length_append, List.length_nil, hl1, hl2]; omega) (Slices.drew (slices2 (wr.alloc (.cells #[.int .u8 (kd : Int), .slice none 0 0, .int .i64 (z' : Int), .bool false] 38)) As (some ⟨bt, ot + 9 * k + 5, none⟩) (c - z') (ct - 9 * k - 5) q 4 _ _ hl1 hl2 ((HTS.out.below hb).below hbV) ((HTR.out.below hb).below hbV)))
        rw [show (wr.alloc (.cells #[.int .u8 (kd : Int), .slice none 0 0, .int .i64 (z' : Int), .bool false] 38)).heap.size = wr.heap.size + 1 from by simp] at hc5
        have hbV5 : Below (wr.heap.size + 1) (wr.alloc (.cells #[.int .u8 (kd : Int), .slice none 0 0, .int .i64 (z' : Int), .bool false] 38)) ((wr.alloc (.cells #[.int .u8 (kd : Int), .slice none 0 0, .int .i64 (z' : Int), .bool false] 38)).alloc (.cells #[.slice As q (c - z'), .slice (some ⟨bt, ot + 9 * k + 5, none⟩) 4 (ct - 9 * k - 5)] 25)).drew := by
          have h0 := ((Below.refl (wr.alloc (.cells #[.int .u8 (kd : Int), .slice none 0 0, .int .i64 (z' : Int), .bool false] 38)).heap.size (wr.alloc (.cells #[.int .u8 (kd : Int), .slice none 0 0, .int .i64 (z' : Int), .bool false] 38))).alloc (Nat.le_refl _) (.cells #[.slice As q (c - z'), .slice (some ⟨bt, ot + 9 * k + 5, none⟩) 4 (ct - 9 * k - 5)] 25)).drew
          rw [show (wr.alloc (.cells #[.int .u8 (kd : Int), .slice none 0 0, .int .i64 (z' : Int), .bool false] 38)).heap.size = wr.heap.size + 1 from by simp] at h0
          exact h0
        have HC5 := Lib.hid (hc5.mono (R' := fun e w' => ∃ A c', e = .returned (.slice A (q + 4) c') ∧ q + 4 ≤ c' ∧ c' ≤ maxLen ∧ Txt w' A ((lb.drop z').take q ++ (t.drop (9 * k + 5)).take 4) ∧ Below (wr.heap.size + 1) (wr.alloc (.cells #[.int .u8 (kd : Int), .slice none 0 0, .int .i64 (z' : Int), .bool false] 38)) w') (by
          rintro e w' ⟨v', rfl, ho', hb'⟩
          obtain ⟨A, c', rfl, h1, h2, h3⟩ := ho'.txt
          simp only [List.flatten_cons, List.flatten_nil, List.append_nil] at h1 h3
          have hlA : ((lb.drop z').take q ++ (t.drop (9 * k + 5)).take 4).length = q + 4 := by rw [List.length_append, hl1, hl2]
          rw [hlA] at h1
          refine ⟨A, c', ?_, h1, h2, h3, ?_⟩
          · simp only [List.flatten_cons, List.flatten_nil, List.append_nil, hlA]
          · exact hbV5.trans (hb'.mono (Nat.le_trans (by simp) hbV5.size))))
        have HR5 : Hid (∀ (W : World) (A : Option Addr) (c' : Nat), q + 4 ≤ c' → Txt W A ((lb.drop z').take q ++ (t.drop (9 * k + 5)).take 4) → Calls Try.prog 33 #[.slice A (q + 4) c'] W fun e w' => e = .returned (.bool (right ((lb.drop z').take q ++ (t.drop (9 * k + 5)).take 4))) ∧ Below W.heap.size W w') := fun W A c' h1 h2 => right_any A (q + 4) c' _ W (by rw [List.length_append, hl1, hl2]) h1 (by omega) h2
        clear hc5 hl1 hl2
        rw [← HWB.out] at HR5
        go_wp2_with fail
        rw [show 9 * (k + 1) - 9 * k = 9 from by omega]
        go_region_with (first
          | (go_at_call 19; refine HC5.out.mono ?_; rintro e w5 ⟨A5, c5, rfl, hq5, hm5, t5, hb5⟩)
          | (go_at_call 33; refine (HR5.out _ _ _ hq5 (by exact t5)).mono ?_; rintro e w6 ⟨rfl, hb6⟩))
        all_goals
          have hb06 := hb5.trans (hb6.mono (Nat.le_trans (by simp) hb5.size))
          have hG : w6.heap[wr.heap.size]? = some (.cells #[.int .u8 (kd : Int), .slice none 0 0, .int .i64 (z' : Int), .bool false] 38) := by
            rw [hb06.block _ (by omega)]
            exact heap_alloc_new _ _
          have hbV6 : Below wr.heap.size wr w6 := hbV.trans (hb06.mono (Nat.le_succ _))
          have HPK : Hid ((partOf lb t at0 k).kind = kd ∧ (partOf lb t at0 k).at_ = (z' : Int)) := by
            refine ⟨?_, ?_⟩
            · show t.getD (9 * k) 0 = kd; rw [List.getD_eq_getElem?_getD, HKD.out]; rfl
            · show startOf t at0 k = z'; rw [← HZ.out, HZK.out]
          have g0 : w6.cell? ⟨wr.heap.size, 0, none⟩ = some (.int .u8 (kd : Int)) := by rw [World.cell?, hG]; rfl
          have g1 : w6.cell? ⟨wr.heap.size, 1, none⟩ = some (.slice none 0 0) := by rw [World.cell?, hG]; rfl
          have g2 : w6.cell? ⟨wr.heap.size, 2, none⟩ = some (.int .i64 (z' : Int)) := by rw [World.cell?, hG]; rfl
          have g3 : w6.cell? ⟨wr.heap.size, 3, none⟩ = some (.bool false) := by rw [World.cell?, hG]; rfl
          have f3 : w6.frozen? ⟨wr.heap.size, 3, none⟩ = false := by simp [World.frozen?, hG]
          cases hr : wholeB lb t at0 k
          · have HPD : Hid ((partOf lb t at0 k).kind = kd ∧ (partOf lb t at0 k).at_ = (z' : Int) ∧ (partOf lb t at0 k).whole = false) := ⟨HPK.out.1, HPK.out.2, hr⟩
            have HPDD : Hid ((partOf lb t at0 k).data = []) := by
              show (if wholeB lb t at0 k then _ else _) = []
              rw [hr]; rfl
            have hdv : OwnB w6 w.heap.size (.slice none 0 0) [] := OwnB.none_
            clear hb6 hb5 t5 hq5 hm5 hb06 hr HPK
            have ho' := ho.later hbV6
            have hbV' := hb.trans (hbV6.mono hsz)
            have hbN := (Below.refl (w6).heap.size (w6)).alloc (Nat.le_refl _) (.cells #[.int .u8 (kd : Int), .slice none 0 0, .int .i64 (z' : Int), .bool false] 38)
            have hoA := ho'.later hbN
            have hdA := hdv.later hbN
            have hbA := hbV'.alloc hbV'.size (.cells #[.int .u8 (kd : Int), .slice none 0 0, .int .i64 (z' : Int), .bool false] 38)
            have hrow := row_new (w6) kd ((z' : Int)) false (partOf lb t at0 k) (.slice none 0 0) HPD.out (rfl)
            clear ho' hbV' hdv hbN
            go_wp2_with (at_builtin; refine stop ?_)
            refine unstop (wpList_appendP rfl (.tmp 62) (.tmp 64) rfl rfl hoA _ (.slice none 0 0) (by rw [HPDD.out]; exact hdA) (by rw [HPD.out.1]; exact hkd8) rfl hrow.1 hrow.2 (by rw [partsOf_len]; omega) hbA.size ?_)
            intro v9 w9 h9 hg9 hbase9
            rw [← HPk.out] at h9
            have hb9 : Below w.heap.size w w9 := hbA.grown hg9 hbA.size hbase9
            clear hoA hdA hbA hrow hg9 hbase9
            go_wp2_with fail
            go_roundw
            case rel => exact ⟨k + 1, by omega, by go_num, by rw [HZS.out], h9, hb9⟩
            case measure => simp [intOf]; omega
          · have HPD : Hid ((partOf lb t at0 k).kind = kd ∧ (partOf lb t at0 k).at_ = (z' : Int) ∧ (partOf lb t at0 k).whole = true) := ⟨HPK.out.1, HPK.out.2, hr⟩
            have HPDD : Hid ((partOf lb t at0 k).data = (lb.drop z').take q) := by
              show (if wholeB lb t at0 k then _ else _) = _
              rw [hr, ← HZ.out, HZK.out, HQ.out, Int.toNat_natCast]; rfl
            clear hb6 hb5 t5 hq5 hm5 hb06 hr HPK
            go_wp2_with fail
            have hH := heap_setCell_same w6 wr.heap.size 3 _ _ (.bool true) hG
            have hbV7 := hbV6.setCell (p := ⟨wr.heap.size, 3, none⟩) (Nat.le_refl _) (.bool true)
            clear g0 g1 g2 g3 hG f3
            generalize w6.setCell ⟨wr.heap.size, 3, none⟩ (.bool true) = w7 at *
            have hsz7 : wr.heap.size < w7.heap.size := (Array.getElem?_eq_some_iff.1 hH).1
            have hl1 : ((lb.drop z').take q).length = q := by rw [List.length_take, List.length_drop]; omega
            refine (clone_any As q (c - z') _ w7 hl1 (by omega) (HTS.out.below (hb.trans (hbV7.mono hsz)))).mono ?_
            rintro e w8 ⟨v8, rfl, ho8, hb8⟩
            have hG8 := (hb8.block _ hsz7).trans hH
            have hdv8 : OwnB w8 w.heap.size v8 ((lb.drop z').take q) := ⟨ho8.1, ownsRow_base ho8.2 (Nat.le_trans hsz (Nat.le_of_lt hsz7))⟩
            have hlt8 : ∀ b, v8.ownBlock = some b → wr.heap.size < b := fun b hb => Nat.lt_of_lt_of_le hsz7 (ho8.lt b hb).1
            obtain ⟨A8, c8, rfl, _, _, _⟩ := ho8.txt
            rw [hl1] at *
            have hG9 := heap_setCell_same w8 wr.heap.size 1 _ _ (.slice A8 q c8) hG8
            have hbV9 := (hbV7.trans (hb8.mono (Nat.le_of_lt hsz7))).setCell (p := ⟨wr.heap.size, 1, none⟩) (Nat.le_refl _) (.slice A8 q c8)
            have hdv : OwnB (w8.setCell ⟨wr.heap.size, 1, none⟩ (.slice A8 q c8)) w.heap.size (.slice A8 q c8) ((lb.drop z').take q) := hdv8.kept (row := some wr.heap.size) ⟨rfl, rfl, rfl, by simp [World.setCell], fun k _ hk => Below.heap_setCell w8 _ _ k (fun e => hk (by rw [e]))⟩ (.inr fun e => Nat.lt_irrefl _ (hlt8 _ e))
            have g0 : w8.cell? ⟨wr.heap.size, 0, none⟩ = some (.int .u8 (kd : Int)) := by rw [World.cell?, hG8]; rfl
            have g1 : w8.cell? ⟨wr.heap.size, 1, none⟩ = some (.slice none 0 0) := by rw [World.cell?, hG8]; rfl
            have g2 : w8.cell? ⟨wr.heap.size, 2, none⟩ = some (.int .i64 (z' : Int)) := by rw [World.cell?, hG8]; rfl
            have g3 : w8.cell? ⟨wr.heap.size, 3, none⟩ = some (.bool true) := by rw [World.cell?, hG8]; rfl
            have f1 : w8.frozen? ⟨wr.heap.size, 1, none⟩ = false := by simp [World.frozen?, hG8]
            have h81 : (w8.cell? ⟨wr.heap.size, 1, none⟩).isSome = true := by rw [World.cell?, hG8]; rfl
            clear hdv8 hlt8 hb8 ho8 hG9 hl1 hbV7 hH
            have ho' := ho.later hbV9
            have hbV' := hb.trans (hbV9.mono hsz)
            have hbN := (Below.refl (w8.setCell ⟨wr.heap.size, 1, none⟩ (.slice A8 q c8)).heap.size (w8.setCell ⟨wr.heap.size, 1, none⟩ (.slice A8 q c8))).alloc (Nat.le_refl _) (.cells #[.int .u8 (kd : Int), .slice A8 q c8, .int .i64 (z' : Int), .bool true] 38)
            have hoA := ho'.later hbN
            have hdA := hdv.later hbN
            have hbA := hbV'.alloc hbV'.size (.cells #[.int .u8 (kd : Int), .slice A8 q c8, .int .i64 (z' : Int), .bool true] 38)
            have hrow := row_new (w8.setCell ⟨wr.heap.size, 1, none⟩ (.slice A8 q c8)) kd ((z' : Int)) true (partOf lb t at0 k) (.slice A8 q c8) HPD.out (rfl)
            rw [show (w8.setCell ⟨wr.heap.size, 1, none⟩ (.slice A8 q c8)).heap.size = w8.heap.size from by simp [World.setCell]] at hrow
            clear ho' hbV' hdv hbN
            go_wp2_with (at_builtin; refine stop ?_)
            refine unstop (wpList_appendP rfl (.tmp 62) (.tmp 64) rfl rfl hoA _ (.slice A8 q c8) (by rw [HPDD.out]; exact hdA) (by rw [HPD.out.1]; exact hkd8) rfl hrow.1 hrow.2 (by rw [partsOf_len]; omega) hbA.size ?_)
            intro v9 w9 h9 hg9 hbase9
            rw [← HPk.out] at h9
            have hb9 : Below w.heap.size w w9 := hbA.grown hg9 hbA.size hbase9
            clear hoA hdA hbA hrow hg9 hbase9
            go_wp2_with fail
            go_roundw
            case rel => exact ⟨k + 1, by omega, by go_num, by rw [HZS.out], h9, hb9⟩
            case measure => simp [intOf]; omega
      · have hwB : wholeB lb t at0 k = false := by
          unfold wholeB
          rw [← HZ.out, HZK.out, HQ.out]
          by_cases h1 : 0 ≤ z
          · have e1 : decide (z + (q : Nat) ≤ (lb.length : Int)) = false := by rw [decide_eq_false_iff_not]; exact fun h2 => hin ⟨h1, h2⟩
            rw [e1]; simp
          · have e1 : decide (0 ≤ z) = false := by rw [decide_eq_false_iff_not]; exact h1
            rw [e1]; simp
        have HPD : Hid ((partOf lb t at0 k).kind = kd ∧ (partOf lb t at0 k).at_ = z ∧ (partOf lb t at0 k).whole = false) := by
          refine ⟨?_, ?_, hwB⟩
          · show t.getD (9 * k) 0 = kd; rw [List.getD_eq_getElem?_getD, HKD.out]; rfl
          · show startOf t at0 k = z; rw [← HZ.out, HZK.out]
        have HPDD : Hid ((partOf lb t at0 k).data = []) := by
          show (if wholeB lb t at0 k then _ else _) = []
          rw [hwB]; rfl
        clear hwB
        by_cases h1 : 0 ≤ z
        · have hd1 : decide ((0 : Int) ≤ z) = true := by rw [decide_eq_true_iff]; exact h1
          have hd2 : decide (z + (q : Int) ≤ (lb.length : Int)) = false := by rw [decide_eq_false_iff_not]; exact fun h2 => hin ⟨h1, h2⟩
          have hdv : OwnB (wr.alloc (.cells #[.int .u8 (kd : Int), .slice none 0 0, .int .i64 z, .bool false] 38)) w.heap.size (.slice none 0 0) [] := OwnB.none_
          have ho' := ho.later hbV
          have hbV' := hb.trans (hbV.mono hsz)
          have hbN := (Below.refl (wr.alloc (.cells #[.int .u8 (kd : Int), .slice none 0 0, .int .i64 z, .bool false] 38)).heap.size (wr.alloc (.cells #[.int .u8 (kd : Int), .slice none 0 0, .int .i64 z, .bool false] 38))).alloc (Nat.le_refl _) (.cells #[.int .u8 (kd : Int), .slice none 0 0, .int .i64 z, .bool false] 38)
          have hoA := ho'.later hbN
          have hdA := hdv.later hbN
          have hbA := hbV'.alloc hbV'.size (.cells #[.int .u8 (kd : Int), .slice none 0 0, .int .i64 z, .bool false] 38)
          have hrow := row_new (wr.alloc (.cells #[.int .u8 (kd : Int), .slice none 0 0, .int .i64 z, .bool false] 38)) kd (z) false (partOf lb t at0 k) (.slice none 0 0) HPD.out (rfl)
          rw [show (wr.alloc (.cells #[.int .u8 (kd : Int), .slice none 0 0, .int .i64 z, .bool false] 38)).heap.size = wr.heap.size + 1 from by simp] at hrow
          clear ho' hbV' hdv hbN
          go_wp2_with (at_builtin; refine stop ?_)
          refine unstop (wpList_appendP rfl (.tmp 62) (.tmp 64) rfl rfl hoA (partOf lb t at0 k) (.slice none 0 0) (by rw [HPDD.out]; exact hdA) (by rw [HPD.out.1]; exact hkd8) rfl hrow.1 hrow.2 (by rw [partsOf_len]; omega) hbA.size ?_)
          intro v9 w9 h9 hg9 hbase9
          rw [← HPk.out] at h9
          have hb9 : Below w.heap.size w w9 := hbA.grown hg9 hbA.size hbase9
          clear hoA hdA hbA hrow hg9 hbase9
          go_wp2_with fail
          go_roundw
          case rel => exact ⟨k + 1, by omega, by go_num, by rw [HZS.out], h9, hb9⟩
          case measure => simp [intOf]; omega
        · have hd1 : decide ((0 : Int) ≤ z) = false := by rw [decide_eq_false_iff_not]; exact h1
          have hdv : OwnB (wr.alloc (.cells #[.int .u8 (kd : Int), .slice none 0 0, .int .i64 z, .bool false] 38)) w.heap.size (.slice none 0 0) [] := OwnB.none_
          have ho' := ho.later hbV
          have hbV' := hb.trans (hbV.mono hsz)
          have hbN := (Below.refl (wr.alloc (.cells #[.int .u8 (kd : Int), .slice none 0 0, .int .i64 z, .bool false] 38)).heap.size (wr.alloc (.cells #[.int .u8 (kd : Int), .slice none 0 0, .int .i64 z, .bool false] 38))).alloc (Nat.le_refl _) (.cells #[.int .u8 (kd : Int), .slice none 0 0, .int .i64 z, .bool false] 38)
          have hoA := ho'.later hbN
          have hdA := hdv.later hbN
          have hbA := hbV'.alloc hbV'.size (.cells #[.int .u8 (kd : Int), .slice none 0 0, .int .i64 z, .bool false] 38)
          have hrow := row_new (wr.alloc (.cells #[.int .u8 (kd : Int), .slice none 0 0, .int .i64 z, .bool false] 38)) kd (z) false (partOf lb t at0 k) (.slice none 0 0) HPD.out (rfl)
          rw [show (wr.alloc (.cells #[.int .u8 (kd : Int), .slice none 0 0, .int .i64 z, .bool false] 38)).heap.size = wr.heap.size + 1 from by simp] at hrow
          clear ho' hbV' hdv hbN
          go_wp2_with (at_builtin; refine stop ?_)
          refine unstop (wpList_appendP rfl (.tmp 62) (.tmp 64) rfl rfl hoA (partOf lb t at0 k) (.slice none 0 0) (by rw [HPDD.out]; exact hdA) (by rw [HPD.out.1]; exact hkd8) rfl hrow.1 hrow.2 (by rw [partsOf_len]; omega) hbA.size ?_)
          intro v9 w9 h9 hg9 hbase9
          rw [← HPk.out] at h9
          have hb9 : Below w.heap.size w w9 := hbA.grown hg9 hbA.size hbase9
          clear hoA hdA hbA hrow hg9 hbase9
          go_wp2_with fail
          go_roundw
          case rel => exact ⟨k + 1, by omega, by go_num, by rw [HZS.out], h9, hb9⟩
          case measure => simp [intOf]; omega
    · obtain rfl : k = N := by omega
      go_wp2_with fail
      go_ret
      exact ⟨_, rfl, ho, hb⟩

end Go.Proofs.Ytjnfnocmjpboiaa
