/-
  The walks of the laws of layer 6, sixth part: one byte; two that change places.
-/
import Derived.Test.YtfmphffnhmokbaaCrcHelp
namespace Go.Proofs.Ytfmphffnhmokbaa
open Go.RowKit
open CrcMath

theorem split_at {l : List Nat} {k u : Nat} (h : l[k]? = some u) : l = l.take k ++ u :: l.drop (k + 1) := by
  have hk := (List.getElem?_eq_some_iff.1 h).1
  have e := (List.getElem?_eq_some_iff.1 h).2
  rw [← e, ← List.drop_eq_getElem_cons hk, List.take_append_drop]

theorem set_at {l : List Nat} {k u v : Nat} (h : l[k]? = some u) : l.set k v = l.take k ++ v :: l.drop (k + 1) := by
  have hk := (List.getElem?_eq_some_iff.1 h).1
  rw [List.set_eq_take_append_cons_drop, if_pos hk]

theorem one_told {l : List Nat} {k u by_ : Nat} (hl : ∀ c ∈ l, c < 256) (hb : by_ < 256) (h : l[k]? = some u) : (sum (l.set k (u ^^^ by_)) = sum l) ↔ by_ = 0 := by
  have hu := hl u (List.mem_of_getElem? h)
  have h1 : ∀ c ∈ l.take k, c < 256 := fun c hc => hl c (List.mem_of_mem_take hc)
  have h2 : ∀ c ∈ l.drop (k + 1), c < 256 := fun c hc => hl c (List.mem_of_mem_drop hc)
  have h3 := one_iff h1 h2 (Nat.xor_lt_two_pow (n := 8) hu hb) hu
  rw [← split_at h, ← set_at h] at h3
  rw [h3]
  constructor
  · intro e
    have e2 : u ^^^ by_ = u ^^^ 0 := by rw [e, Nat.xor_zero]
    exact xor_cancel e2
  · rintro rfl; rw [Nat.xor_zero]

theorem swap_told {l : List Nat} {k u v : Nat} (hl : ∀ c ∈ l, c < 256) (hu : l[k]? = some u) (hv : l[k + 1]? = some v) : (sum ((l.set k v).set (k + 1) u) = sum l) ↔ u = v := by
  have ku := hl u (List.mem_of_getElem? hu)
  have kv := hl v (List.mem_of_getElem? hv)
  have hk1 := (List.getElem?_eq_some_iff.1 hv).1
  have h1 : ∀ c ∈ l.take k, c < 256 := fun c hc => hl c (List.mem_of_mem_take hc)
  have h2 : ∀ c ∈ l.drop (k + 2), c < 256 := fun c hc => hl c (List.mem_of_mem_drop hc)
  have hd : l.drop (k + 1) = v :: l.drop (k + 2) := by
    have e := (List.getElem?_eq_some_iff.1 hv).2
    rw [List.drop_eq_getElem_cons hk1, e]
  have e1 : l = l.take k ++ u :: v :: l.drop (k + 2) := by rw [← hd]; exact split_at hu
  have e2 : (l.set k v).set (k + 1) u = l.take k ++ v :: u :: l.drop (k + 2) := by
    rw [set_at hu, hd]
    have hlen : (l.take k).length = k := by rw [List.length_take]; omega
    rw [List.set_append_right _ _ (by omega), hlen]
    have : k + 1 - k = 1 := by omega
    rw [this]; rfl
  have h3 := swap_iff h1 h2 ku kv
  rw [← e2, ← e1] at h3
  exact h3

set_option maxHeartbeats 4000000 in
theorem crcOne_walk (a : Option Addr) (ca i by_ : Nat) (l : List Nat) (w : World) (hl1 : 2 ≤ l.length) (hl2 : l.length ≤ 300) (hi : i < 65536) (hby : by_ < 256) (h : Txt w a l) :
    Calls Try.prog 8 #[.slice a l.length ca, .int .u16 (i : Int), .int .u8 (by_ : Int)] w fun e w' => e = .returned (.bool true) ∧ Below w.heap.size w w' := by
  obtain ⟨k, hk⟩ : ∃ k, k = i % (l.length - 1) := ⟨_, rfl⟩
  have hkl : k < l.length - 1 := by rw [hk]; exact Nat.mod_lt _ (by omega)
  have hki : (i : Int) % ((l.length : Int) - 1) = (k : Int) := by
    rw [hk, show ((l.length : Int) - 1) = ((l.length - 1 : Nat) : Int) from by omega]; rfl
  clear hk
  obtain ⟨u, hu⟩ : ∃ u, l[k]? = some u := ⟨l[k], List.getElem?_eq_getElem (by omega)⟩
  obtain ⟨v, hv⟩ : ∃ v, l[k + 1]? = some v := ⟨l[k + 1], List.getElem?_eq_getElem (by omega)⟩
  have hu8 := h.1 u (List.mem_of_getElem? hu)
  have hv8 := h.1 v (List.mem_of_getElem? hv)
  have hx := u8_xor_nat u by_ hu8 hby
  have hxl : u ^^^ by_ < 256 := Nat.xor_lt_two_pow (n := 8) hu8 hby
  have o1 := one_told h.1 hby hu
  have o2 := swap_told h.1 hu hv
  have HU := Lib.hid hu
  have HV := Lib.hid hv
  obtain ⟨ba, oa, rfl, hca⟩ := h.at_ (by omega)
  have C0 := Lib.hid (hca k u hu)
  have C1 := Lib.hid (hca (k + 1) v hv)
  have HX : Hid (∀ wr : World, Below w.heap.size w wr → Txt wr (some ⟨ba, oa, none⟩) l) := fun wr hb => h.below hb
  obtain ⟨t, ht⟩ : ∃ t : Bool, t = ((by_ : Int) == 0) := ⟨_, rfl⟩
  have q1 : (((sum (l.set k (u ^^^ by_)) : Nat) : Int) == ((sum l : Nat) : Int)) = t := by
    rw [ht, Bool.eq_iff_iff, beq_iff_eq, beq_iff_eq, Int.natCast_inj, o1]; omega
  have q2 : ((by_ : Int) == 0) = t := ht.symm
  obtain ⟨t', ht'⟩ : ∃ t' : Bool, t' = ((u : Int) == (v : Int)) := ⟨_, rfl⟩
  have q3 : (((sum ((l.set k v).set (k + 1) u) : Nat) : Int) == ((sum l : Nat) : Int)) = t' := by
    rw [ht', Bool.eq_iff_iff, beq_iff_eq, beq_iff_eq, Int.natCast_inj, o2, Int.natCast_inj]
  have q4 : ((u : Int) == (v : Int)) = t' := ht'.symm
  have Q1 := Lib.hid q1
  have Q2 := Lib.hid q2
  have Q3 := Lib.hid q3
  have Q4 := Lib.hid q4
  clear h hu hv hca o1 o2 q1 q2 q3 q4 ht ht'
  go_enter Try.func8, Try.ntmps8
  go_wp2_with fail
  refine (awake_any _).mono ?_
  rintro e w1 ⟨rfl, hb1⟩
  have hb1' := hb1.size
  have hbA := hb1.alloc hb1.size (.cells #[] 5)
  have tA := HX.out _ hbA
  go_wp2_with (at_builtin; refine stop ?_)
  refine unstop (wpList_appendB rfl (.tmp 26) (.tmp 27) rfl rfl (OwnB.new hb1.size) rfl rfl tA (by simp; omega) (by simp; omega) ?_)
  intro v2 w2 hown2 hg2 _
  rw [List.nil_append] at *
  have hb2 := below_appendB hbA (OwnB.new hb1.size) (Nat.le_refl _) hg2
  have hb2' := hb2.size
  have hbB := hb2.alloc hb2.size (.cells #[] 5)
  have tB := HX.out _ hbB
  have hownc := hown2.later (w' := w2.alloc (.cells #[] 5)) ((Below.refl _ _).alloc (Nat.le_refl _) _)
  clear hg2 tA hbA
  go_wp2_with (at_builtin; refine stop ?_)
  refine unstop (wpList_appendB rfl (.tmp 29) (.tmp 30) rfl rfl (OwnB.new (base := w2.heap.size) (Nat.le_refl _)) rfl rfl tB (by simp; omega) (by simp) ?_)
  intro v3 w3 hown3 hg3 _
  rw [List.nil_append] at *
  have hb3 := below_appendB hbB (OwnB.new (base := w2.heap.size) (Nat.le_refl _)) hb2.size hg3
  have hc3 := hownc.kept hg3 (.inr fun e => by have := hown2.lt _ e; simp at this)
  obtain ⟨gc, cc, rfl, hc1, hc2, hc3', hc4⟩ := hc3.form (by omega)
  obtain ⟨gd, cd, rfl, hd1, hd2, hd3', hd4⟩ := hown3.form (by omega)
  have hgne : gc < gd := by have := (hown2.lt gc rfl).2; omega
  have cc0 := hc3.cell HU.out
  have cf0 := hc3.thawed k
  have hc4' := hc3.set k (u ^^^ by_) hxl
  have hbC := hb3.setCell (p := ⟨gc, k, none⟩) hc3' (.int .u8 ((u ^^^ by_ : Nat) : Int))
  clear hg3 tB hbB hown2 hownc
  go_wp2_with fail
  have hd5 := hown3.apart gc k (.int .u8 ((u ^^^ by_ : Nat) : Int)) (by omega)
  have hc5 := hc4'
  clear hc4' hc3 hown3 cc0 cf0
  generalize w3.setCell ⟨gc, k, none⟩ (.int .u8 ((u ^^^ by_ : Nat) : Int)) = W at *
  have d0 := hd5.cell HU.out
  have d1 := hd5.cell HV.out
  have f0 := hd5.thawed k
  have f1 := hd5.thawed (k + 1)
  have hd6 := (hd5.set k v hv8).set (k + 1) u hu8
  have hc6 := hc5.apart gd k (.int .u8 (v : Int)) (by omega)
  have hc7 := hc6.apart gd (k + 1) (.int .u8 (u : Int)) (by omega)
  have hbD := (hbC.setCell (p := ⟨gd, k, none⟩) (Nat.le_trans hb2.size hd3') (.int .u8 (v : Int))).setCell (p := ⟨gd, k + 1, none⟩) (Nat.le_trans hb2.size hd3') (.int .u8 (u : Int))
  clear hd5 hc5 hc6 hbC
  go_region
  go_wp2_with fail
  have hk0 : k + 1 < l.length := by omega
  clear d0 d1 f0 f1 hkl hki hx
  generalize (W.setCell ⟨gd, k, none⟩ (.int .u8 (v : Int))).setCell ⟨gd, k + 1, none⟩ (.int .u8 (u : Int)) = V0 at *
  have hc7 := hc7.drew
  have hd6 := hd6.drew
  have hbD := hbD.drew
  generalize V0.drew = V at *
  have tx := HX.out V hbD
  have c0 := (hbD.cell (p := ⟨ba, oa + k, none⟩) (lt_of_cell C0.out)).trans C0.out
  have c1 := (hbD.cell (p := ⟨ba, oa + (k + 1), none⟩) (lt_of_cell C1.out)).trans C1.out
  have HC := Lib.hid (sumQ V _ cc _ l.length hc7.read (by rw [List.length_set]) (by omega))
  have HD := Lib.hid (sumQ V _ cd _ l.length hd6.read (by rw [List.length_set, List.length_set]) (by omega))
  have HL := Lib.hid (sumQ V _ ca _ l.length tx rfl (by omega))
  have q1 := Q1.out
  have q2 := Q2.out
  have q3 := Q3.out
  have q4 := Q4.out
  clear HX hd6 hc7 tx C0 C1 HU HV Q1 Q2 Q3 Q4
  generalize sum (l.set k (u ^^^ by_)) = s1 at *
  generalize sum ((l.set k v).set (k + 1) u) = s2 at *
  generalize sum l = s0 at *
  have e0 : (k : Int) < (l.length : Int) := by omega
  have e4 : (k : Int) + 1 < (l.length : Int) := by omega
  have e2 : (0 : Int) ≤ (k : Int) + 1 := by omega
  have e3 : ((k : Int) + 1).toNat = k + 1 := by omega
  have e1 : IntKind.i64.wrap ((k : Int) + 1) = (k : Int) + 1 := IntWalk.i64_in _ (by omega)
  go_quiet (first | (go_at_call 12; exact HC.out _) | (go_at_call 12; exact HL.out _) | (go_at_call 12; exact HD.out _))
  go_wp2
  go_ret
  refine ⟨?_, below_drewN hbD _⟩
  rfl

set_option maxHeartbeats 1000000 in
theorem crcOne_all (a : Option Addr) (ca i by_ : Nat) (l : List Nat) (w : World) (hi : i < 65536) (hby : by_ < 256) (h : Txt w a l) :
    Calls Try.prog 8 #[.slice a l.length ca, .int .u16 (i : Int), .int .u8 (by_ : Int)] w fun e w' => e = .returned (.bool true) ∧ Below w.heap.size w w' := by
  by_cases h1 : l.length < 2
  · go_enter Try.func8, Try.ntmps8
    go_wp2_with fail
    refine (awake_any _).mono ?_
    rintro e w1 ⟨rfl, hb1⟩
    go_wp2_with fail
    go_ret
    exact ⟨rfl, hb1⟩
  · by_cases h2 : l.length ≤ 300
    · exact crcOne_walk a ca i by_ l w (by omega) h2 hi hby h
    · go_enter Try.func8, Try.ntmps8
      go_wp2_with fail
      refine (awake_any _).mono ?_
      rintro e w1 ⟨rfl, hb1⟩
      go_wp2_with fail
      go_ret
      exact ⟨rfl, hb1⟩

end Go.Proofs.Ytfmphffnhmokbaa
