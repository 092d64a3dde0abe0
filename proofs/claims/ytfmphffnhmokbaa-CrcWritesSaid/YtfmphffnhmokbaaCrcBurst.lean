/-
  The document's 'Burst': from the first to the last bit in which two texts are not the same.
-/
import Derived.Test.YtfmphffnhmokbaaCrcWalks
import Derived.Test.YtfmphffnhmokbaaCrcBits
import Derived.Deep.QuietTactic
import Derived.BigQuiet
namespace Go.Proofs.Ytfmphffnhmokbaa
open Go.RowKit
open CrcMath

/-- What is known of the first and the last such bit below p. -/
def Seen (D : Nat → Bool) (p : Nat) (f g : Int) : Prop :=
  (f = -1 ∧ g = -1 ∧ ∀ q, q < p → D q = false) ∨
  (∃ a b : Nat, f = a ∧ g = b ∧ a ≤ b ∧ b < p ∧ D a = true ∧ D b = true ∧ ∀ q, q < p → D q = true → a ≤ q ∧ q ≤ b)

theorem seen_zero (D : Nat → Bool) : Seen D 0 (-1) (-1) := .inl ⟨rfl, rfl, fun _ h => by omega⟩
theorem seen_no {D : Nat → Bool} {p : Nat} {f g : Int} (h : Seen D p f g) (hd : D p = false) : Seen D (p + 1) f g := by
  rcases h with ⟨h1, h2, h3⟩ | ⟨a, b, h1, h2, h3, h4, h5, h6, h7⟩
  · refine .inl ⟨h1, h2, fun q hq => ?_⟩
    rcases Nat.lt_or_ge q p with h | h
    · exact h3 q h
    · obtain rfl : q = p := by omega
      exact hd
  · refine .inr ⟨a, b, h1, h2, h3, by omega, h5, h6, fun q hq hq' => ?_⟩
    rcases Nat.lt_or_ge q p with h | h
    · exact h7 q h hq'
    · obtain rfl : q = p := by omega
      rw [hd] at hq'; cases hq'
theorem seen_first {D : Nat → Bool} {p : Nat} {f g : Int} (h : Seen D p f g) (hf : f < 0) (hd : D p = true) : Seen D (p + 1) p p := by
  rcases h with ⟨h1, h2, h3⟩ | ⟨a, b, h1, h2, h3, h4, h5, h6, h7⟩
  · refine .inr ⟨p, p, rfl, rfl, Nat.le_refl _, by omega, hd, hd, fun q hq hq' => ?_⟩
    rcases Nat.lt_or_ge q p with h | h
    · rw [h3 q h] at hq'; cases hq'
    · omega
  · omega
theorem seen_next {D : Nat → Bool} {p : Nat} {f g : Int} (h : Seen D p f g) (hf : 0 ≤ f) (hd : D p = true) : Seen D (p + 1) f p := by
  rcases h with ⟨h1, h2, h3⟩ | ⟨a, b, h1, h2, h3, h4, h5, h6, h7⟩
  · omega
  · refine .inr ⟨a, p, h1, rfl, by omega, by omega, h5, hd, fun q hq hq' => ?_⟩
    rcases Nat.lt_or_ge q p with h | h
    · have := h7 q h hq'; omega
    · have : q = p := by omega
      subst this; omega
theorem seen_bd {D : Nat → Bool} {p : Nat} {f g : Int} (h : Seen D p f g) : -1 ≤ f ∧ f ≤ g ∧ g < p ∧ (f < 0 → g = -1) := by
  rcases h with ⟨h1, h2, h3⟩ | ⟨a, b, h1, h2, h3, h4, h5, h6, h7⟩ <;> omega

/-- What 'Burst' tells. -/
def Told (D : Nat → Bool) (N : Nat) (n : Int) : Prop := ∃ f g : Int, Seen D N f g ∧ ((f < 0 ∧ n = 0) ∨ (0 ≤ f ∧ n = g - f + 1))

theorem dbit_at {l m : List Nat} {i k u v : Nat} (hk : k < 8) (hu : l[i]? = some u) (hv : m[i]? = some v) : dbit l m (8 * i + k) = ((u ^^^ v) / 2 ^ k % 2 == 1) := by
  unfold dbit
  have h1 : (8 * i + k) / 8 = i := by omega
  have h2 : (8 * i + k) % 8 = k := by omega
  rw [h1, h2, List.getD_eq_getElem?_getD, List.getD_eq_getElem?_getD, hu, hv]; rfl

set_option maxHeartbeats 1000000 in
theorem burst_any (a b : Option Addr) (ca cb : Nat) (l m : List Nat) (w : World) (hm : l.length ≤ 1000) (hlm : m.length = l.length) (h : Txt w a l) (h' : Txt w b m) :
    Calls Try.prog 15 #[.slice a l.length ca, .slice b l.length cb] w fun e w' => ∃ n : Int, e = .returned (.int .i64 n) ∧ Told (dbit l m) (8 * l.length) n ∧ ∃ k, w' = w.drewN k := by
  have hb := h.lt
  have hc := h.at_
  have hb' := h'.lt
  have hc' := h'.at_
  clear h h'
  have HL := Lib.hid hlm
  clear hlm
  obtain ⟨D, hD⟩ : ∃ D, D = dbit l m := ⟨_, rfl⟩
  rw [← hD]
  have HD := Lib.hid hD
  clear hD
  go_enter Try.func15, Try.ntmps15
  go_wp2
  go_loopw [5, 6, 7, 8] (fun f g i k wr => ∃ (j : Nat) (x y : Int) (d : Nat), j ≤ l.length ∧ i = .int .i64 j ∧ f = .int .i64 x ∧ g = .int .i64 y ∧ Seen D (8 * j) x y ∧ wr = w.drewN d) (fun _ _ i _ _ => l.length - (intOf i).toNat)
  case atStart => exact ⟨0, -1, -1, 0, by omega, rfl, rfl, rfl, seen_zero D, rfl⟩
  case round =>
    obtain ⟨j, x, y, d, hj, rfl, rfl, rfl, hs, hwr⟩ := hrel
    subst hwr
    by_cases hjl : j < l.length
    · obtain ⟨u, hu⟩ : ∃ u, l[j]? = some u := ⟨l[j], List.getElem?_eq_getElem hjl⟩
      obtain ⟨v, hv⟩ : ∃ v, m[j]? = some v := ⟨m[j]'(by rw [HL.out]; exact hjl), List.getElem?_eq_getElem _⟩
      obtain ⟨ba, oa, rfl, hcell⟩ := hc (by omega)
      obtain ⟨bb, ob, rfl, hcell'⟩ := hc' (by rw [HL.out]; omega)
      have hcl := hcell j u hu
      have hcl' := hcell' j v hv
      clear hcell hcell'
      have hul : u < 256 := hb u (List.mem_of_getElem? hu)
      have hvl : v < 256 := hb' v (List.mem_of_getElem? hv)
      have HB : Hid (∀ k, k < 8 → D (8 * j + k) = ((u ^^^ v) / 2 ^ k % 2 == 1)) := fun k hk => by rw [HD.out]; exact dbit_at hk hu hv
      have hx := u8_xor_nat u v hul hvl
      have hq : u ^^^ v < 256 := Nat.xor_lt_two_pow (n := 8) hul hvl
      generalize u ^^^ v = q at *
      clear hu hv hc hc' hb hb'
      go_wp2
      go_loopw [5, 6, 8] (fun f g k wr => ∃ (n : Nat) (x y : Int) (d : Nat), n ≤ 8 ∧ k = .int .i64 n ∧ f = .int .i64 x ∧ g = .int .i64 y ∧ Seen D (8 * j + n) x y ∧ wr = w.drewN d) (fun _ _ k _ => 8 - (intOf k).toNat)
      case atStart => exact ⟨0, x, y, d, by omega, rfl, rfl, rfl, hs, rfl⟩
      case round =>
        obtain ⟨n, x, y, d, hn, rfl, rfl, rfl, hs, hwr⟩ := hrel
        subst hwr
        have hbd := seen_bd hs
        by_cases hn8 : n < 8
        · have hDn := HB.out n hn8
          have ei : ((q / 2 ^ n % 2 : Nat) : Int) = (q : Int) / 2 ^ n % 2 := by simp
          have e0 : (0 : Int) ≤ (q : Int) / 2 ^ n := by
            have e : ((q / 2 ^ n : Nat) : Int) = (q : Int) / 2 ^ n := by simp
            rw [← e]; exact Int.natCast_nonneg _
          by_cases hd : q / 2 ^ n % 2 = 1
          · have ht : ((q : Int) / 2 ^ n % 2 == 1) = true := by rw [← ei, hd]; rfl
            have HDn : Hid (D (8 * j + n) = true) := by show _ = _; rw [hDn, hd]; rfl
            clear ei hd hDn
            go_wp2
            go_quiet (fail)
            go_wp2
            · have hx0 : x < 0 := by assumption
              go_roundw
              case rel => exact ⟨n + 1, _, _, _, by omega, by go_num, rfl, rfl, by have := seen_first hs hx0 HDn.out; simpa [Nat.add_assoc] using this, rfl⟩
              case measure => simp [intOf]; omega
            · have hx0 : 0 ≤ x := by assumption
              go_roundw
              case rel => exact ⟨n + 1, _, _, _, by omega, by go_num, rfl, rfl, by have := seen_next hs hx0 HDn.out; simpa [Nat.add_assoc] using this, rfl⟩
              case measure => simp [intOf]; omega
          · have ht : ((q : Int) / 2 ^ n % 2 == 1) = false := by rw [← ei, beq_eq_false_iff_ne]; omega
            have HDn : Hid (D (8 * j + n) = false) := by show _ = _; rw [hDn, beq_eq_false_iff_ne]; exact hd
            clear ei hd hDn
            go_wp2
            go_quiet (fail)
            go_wp2
            go_roundw
            case rel => exact ⟨n + 1, _, _, _, by omega, by go_num, rfl, rfl, seen_no hs HDn.out, rfl⟩
            case measure => simp [intOf]; omega
        · have hn' : n = 8 := by omega
          subst hn'
          go_wp2
          go_roundw
          case rel => exact ⟨j + 1, _, _, _, by omega, by go_num, rfl, rfl, hs, rfl⟩
          case measure => simp [intOf]; omega
    · have hj' : j = l.length := by omega
      subst hj'
      have hbd := seen_bd hs
      by_cases hx0 : x < 0
      · have HT : Hid (Told D (8 * l.length) 0) := ⟨x, y, hs, .inl ⟨hx0, rfl⟩⟩
        go_wp2
        go_ret
        exact ⟨_, rfl, HT.out, _, rfl⟩
      · have HT : Hid (Told D (8 * l.length) (y - x + 1)) := ⟨x, y, hs, .inr ⟨by omega, rfl⟩⟩
        go_wp2
        go_ret
        exact ⟨_, rfl, HT.out, _, rfl⟩

end Go.Proofs.Ytfmphffnhmokbaa
