/-
  Layer 7 (box): the document's answer: Pack.
-/
import Derived.Test.YtjnfnocmjpboiaaBoxRef2
namespace Go.Proofs.Ytjnfnocmjpboiaa
open Go.RowKit
open CrcMath BoxMath

set_option maxHeartbeats 2000000 in
theorem refPack_any (ka da : Option Addr) (n kc dc : Nat) (cs : List (Nat × List Nat)) (w : World) (hn : cs.length = n) (hn2 : n ≤ 1024) (hl : 36 + 18 * n + (dataOf cs).length ≤ 4194304)
    (hk : Txt w ka (cs.map (·.1))) (hd : Slices w da (cs.map (·.2))) :
    Calls Try.prog 20 #[.slice ka n kc, .slice da n dc] w fun e w' => ∃ v, e = .returned (.tuple #[v, .int .i64 0]) ∧ OwnB w' w.heap.size v (boxOf cs) ∧ Below w.heap.size w w' := by
  have HX := Lib.hid hd
  have HN := Lib.hid hn
  have hl2 : ∀ x ∈ cs, x.2.length ≤ 4194304 := fun x hx => by
    have h1 := data_mem hx
    omega
  have HSZ := Lib.hid (refSize_any da n dc cs w hn hn2 hl hd)
  have HFX := Lib.hid (refFixed_any n w hn2)
  have HTB := Lib.hid (fun (V : World) (hV : Below w.heap.size w V) => refTable_any ka da n kc dc cs V hn hn2 hl2 (hk.below hV) (fun i l h => by
    obtain ⟨b, off, A, c, e, h1, h2⟩ := hd i l h
    exact ⟨b, off, A, c, e, (hV.cell (p := ⟨b, off + i, none⟩) (lt_of_cell h1)).trans h1, h2.below hV⟩))
  have hfl : (fixedOf n).length = 10 := fixedOf_len n
  have htl : (tableOf cs).length = 9 * n + 4 := by rw [tableOf_len, hn]
  obtain ⟨D, hD⟩ : ∃ D : Nat → List Nat, D = fun k => dataOf (cs.take k) := ⟨_, rfl⟩
  have HD := Lib.hid hD
  have hD0 : D 0 = [] := by rw [hD]; rfl
  have HD0 := Lib.hid hD0
  have HDL : Hid (∀ k, (D k).length ≤ (dataOf cs).length) := fun k => by rw [hD]; exact data_le cs k
  have HDn : Hid (D n = dataOf cs) := by show _ = _; rw [hD]; show dataOf (cs.take n) = _; rw [List.take_of_length_le (by rw [hn]; exact Nat.le_refl _)]
  have HBX : Hid (boxOf cs = fixedOf n ++ (tableOf cs ++ ([0, 0, 0, 0] ++ (dataOf cs ++ ([0, 0, 0, 0] ++ (tableOf cs ++ fixedOf n)))))) := by show _ = _; unfold boxOf; rw [hn]
  clear hd hk hn hD hD0 hl2
  generalize boxOf cs = B at *
  generalize fixedOf n = F at *
  generalize tableOf cs = T at *
  generalize hdl : (dataOf cs).length = dl at *
  have HFL := Lib.hid hfl
  have HTL := Lib.hid htl
  clear hfl htl hdl
  go_enter Try.func20, Try.ntmps20
  go_wp2_with fail
  refine HSZ.out.mono ?_
  rintro e w1 ⟨rfl, rfl⟩
  go_wp2_with fail
  refine HFX.out.mono ?_
  rintro e w2 ⟨vf, rfl, hof, hbf⟩
  go_wp2_with fail
  refine (HTB.out _ hbf).mono ?_
  rintro e w3 ⟨vt, rfl, hot, hbt⟩
  have hof3 := hof.later hbt
  have hb3 := hbf.trans (hbt.mono hbf.size)
  clear hof
  obtain ⟨af, cf, rfl, hcf, hcf2, tf⟩ := hof3.txt
  obtain ⟨at_, ct, rfl, hct, hct2, tt⟩ := hot.txt
  have HT4 : Hid (∀ V : World, Txt (V.alloc (.cells #[.int .u8 0, .int .u8 0, .int .u8 0, .int .u8 0] 5)) (some ⟨V.heap.size, 0, none⟩) [0, 0, 0, 0]) := fun V => txt_lit4 V 0 0 0 0 0 0 0 0 rfl rfl rfl rfl (by decide) (by decide) (by decide) (by decide)
  have ho0 : OwnB (w3.alloc (.cells #[] 5)) w3.heap.size (.slice (some ⟨w3.heap.size, 0, none⟩) 0 0) [] := OwnB.new (Nat.le_refl _)
  have hb0 := (Below.refl w3.heap.size w3).alloc (Nat.le_refl _) (.cells #[] 5)
  have tf0 := tf.below hb0
  have HTF := Lib.hid tf
  have HTT := Lib.hid tt
  have HB3 := Lib.hid hb3
  clear hot hof3 hbt hbf tf tt hb3
  go_wp2_with (at_builtin; refine stop ?_)
  refine unstop (wpList_appendB rfl (.tmp 24) (.tmp 25) rfl rfl ho0 rfl rfl tf0 (by have := HFL.out; simp; omega) hb0.size ?_)
  intro v4 w4 h4 hg4 _
  have hb4 := below_appendB hb0 ho0 (Nat.le_refl _) hg4
  have tt4 := HTT.out.below hb4
  clear ho0 hb0 tf0 hg4
  go_wp2_with (at_builtin; refine stop ?_)
  refine unstop (wpList_appendB rfl (.tmp 26) (.tmp 27) rfl rfl h4 rfl rfl tt4 (by have := HFL.out; have := HTL.out; simp; omega) hb4.size ?_)
  intro v5 w5 h5 hg5 _
  have hb5 := below_appendB hb4 h4 (Nat.le_refl _) hg5
  clear hg5 h4 hb4 tt4
  have h5a := h5.later ((Below.refl w5.heap.size w5).alloc (Nat.le_refl _) (.cells #[.int .u8 0, .int .u8 0, .int .u8 0, .int .u8 0] 5))
  have hb5a := hb5.alloc hb5.size (.cells #[.int .u8 0, .int .u8 0, .int .u8 0, .int .u8 0] 5)
  go_wp2_with (at_builtin; refine stop ?_)
  refine unstop (wpList_appendB rfl (.tmp 28) (.tmp 29) rfl rfl h5a rfl rfl (HT4.out w5) (by have := HFL.out; have := HTL.out; simp; omega) hb5a.size ?_)
  intro v6 w6 h6 hg6 _
  have hb6 := below_appendB hb5a h5a (Nat.le_refl _) hg6
  clear hg6 h5 hb5 h5a hb5a
  obtain ⟨G, hG⟩ : ∃ G : Nat → List Nat, G = fun k => F ++ (T ++ ([0, 0, 0, 0] ++ D k)) := ⟨_, rfl⟩
  have HG := Lib.hid hG
  have hG0 : [] ++ F ++ T ++ [0, 0, 0, 0] = G 0 := by rw [hG]; show _ = F ++ (T ++ ([0, 0, 0, 0] ++ D 0)); rw [HD0.out]; simp
  have HGL : Hid (∀ k, (G k).length ≤ 14 + (9 * n + 4) + dl) := fun k => by
    rw [hG]
    have h1 := HFL.out
    have h2 := HTL.out
    have h3 := HDL.out k
    simp only [List.length_append, List.length_cons, List.length_nil]
    omega
  rw [hG0] at h6
  have H6 := Lib.hid h6
  have HB6 := Lib.hid hb6
  have hsz := HB3.out.size
  clear hG hG0 h6 hb6
  go_wp2_with fail
  go_loopw [8, 9] (fun x i wr => ∃ k : Nat, k ≤ n ∧ i = .int .i64 k ∧ OwnB wr w3.heap.size x (G k) ∧ Below w3.heap.size w3 wr) (fun _ i _ => n - (intOf i).toNat)
  case atStart => exact ⟨0, by omega, rfl, H6.out, HB6.out⟩
  case round =>
    clear H6 HB6
    obtain ⟨k, hk, rfl, ho, hb⟩ := hrel
    by_cases hkn : k < n
    · obtain ⟨⟨kd, l⟩, hck⟩ : ∃ x, cs[k]? = some x := ⟨cs[k]'(by rw [HN.out]; exact hkn), List.getElem?_eq_getElem _⟩
      obtain ⟨b, off, A, c', rfl, hc0, tx0⟩ := HX.out k l (by rw [List.getElem?_map, hck]; rfl)
      have hbw := HB3.out.trans (hb.mono HB3.out.size)
      have hc2 := (hbw.cell (p := ⟨b, off + k, none⟩) (lt_of_cell hc0)).trans hc0
      have tx := tx0.below hbw
      have HS : Hid (G (k + 1) = G k ++ l) := by
        show _ = _
        rw [HG.out]
        show F ++ (T ++ ([0, 0, 0, 0] ++ D (k + 1))) = F ++ (T ++ ([0, 0, 0, 0] ++ D k)) ++ l
        have h1 : D (k + 1) = D k ++ l := by rw [HD.out]; exact data_succ hck
        rw [h1]; simp only [List.append_assoc]
      have hlen := HGL.out (k + 1)
      rw [HS.out, List.length_append] at hlen
      have hsb := hb.size
      clear hck hc0 tx0 hbw
      go_wp2_with (at_builtin; refine stop ?_)
      refine unstop (wpList_appendB rfl (.tmp 37) (.tmp 41) rfl rfl ho rfl rfl tx (by omega) hsb ?_)
      intro v7 w7 h7 hg7 _
      rw [← HS.out] at h7
      have hb7 := below_appendB hb ho (Nat.le_refl _) hg7
      clear ho hg7 tx hlen
      go_wp2_with fail
      go_roundw
      case rel => exact ⟨k + 1, by omega, by go_num, h7, hb7⟩
      case measure => simp [intOf]; omega
    · obtain rfl : k = n := by omega
      have hlen := HGL.out k
      have hsb := hb.size
      have h0a := ho.later ((Below.refl wr.heap.size wr).alloc (Nat.le_refl _) (.cells #[.int .u8 0, .int .u8 0, .int .u8 0, .int .u8 0] 5))
      have hb0a := hb.alloc hb.size (.cells #[.int .u8 0, .int .u8 0, .int .u8 0, .int .u8 0] 5)
      clear ho hb
      go_wp2_with (at_builtin; refine stop ?_)
      refine unstop (wpList_appendB rfl _ _ rfl rfl h0a rfl rfl (HT4.out wr) (by simp; omega) hb0a.size ?_)
      intro v7 w7 h7 hg7 _
      have hb7 := below_appendB hb0a h0a (Nat.le_refl _) hg7
      have tt7 := HTT.out.below hb7
      clear hg7 h0a hb0a
      go_wp2_with (at_builtin; refine stop ?_)
      refine unstop (wpList_appendB rfl _ _ rfl rfl h7 rfl rfl tt7 (by have := HFL.out; have := HTL.out; simp; omega) hb7.size ?_)
      intro v8 w8 h8 hg8 _
      have hb8 := below_appendB hb7 h7 (Nat.le_refl _) hg8
      have tf8 := HTF.out.below hb8
      clear hg8 h7 hb7 tt7
      go_wp2_with (at_builtin; refine stop ?_)
      refine unstop (wpList_appendB rfl _ _ rfl rfl h8 rfl rfl tf8 (by have := HFL.out; have := HTL.out; simp; omega) hb8.size ?_)
      intro v9 w9 h9 hg9 _
      have hb9 := below_appendB hb8 h8 (Nat.le_refl _) hg9
      clear hg9 h8 hb8 tf8
      go_wp2_with fail
      go_ret2
      refine ⟨v9, rfl, ⟨?_, ?_⟩, HB3.out.trans (hb9.mono HB3.out.size)⟩
      all_goals
        have e : B = G k ++ [0, 0, 0, 0] ++ T ++ F := by
          rw [HBX.out, HG.out]
          show _ = F ++ (T ++ ([0, 0, 0, 0] ++ D k)) ++ [0, 0, 0, 0] ++ T ++ F
          rw [HDn.out]
          simp only [List.append_assoc]
        rw [e]
      · exact h9.1
      · exact ownsRow_base h9.2 HB3.out.size

end Go.Proofs.Ytjnfnocmjpboiaa
