/- pack.read, of whole numbers, and of what is none. -/
import Derived.Test.YtcoepekoacpgnaaDoorPck7
namespace Go.Proofs.YtcoepekoacpgnaaDoor
set_option linter.unusedVariables false
set_option linter.unusedSimpArgs false
open Go.RowKit
theorem sign8 (n : Nat) (h : n < 256) : IntKind.i8.wrap (n : Int) = signN 1 n := by
  have h1 : IntKind.i8.wrap (n : Int) = ((n : Int) + 128) % 256 - 128 := by simp [IntKind.wrap, IntKind.bits, IntKind.signed, Int.bmod]; omega
  rw [h1]; simp only [signN, Nat.reduceMul, Nat.reduceSub, Nat.reducePow]; split <;> omega
theorem sign16 (n : Nat) (h : n < 65536) : IntKind.i16.wrap (n : Int) = signN 2 n := by
  have h1 : IntKind.i16.wrap (n : Int) = ((n : Int) + 32768) % 65536 - 32768 := by simp [IntKind.wrap, IntKind.bits, IntKind.signed, Int.bmod]; omega
  rw [h1]; simp only [signN, Nat.reduceMul, Nat.reduceSub, Nat.reducePow]; split <;> omega
theorem sign32 (n : Nat) (h : n < 4294967296) : wrap32 (n : Int) = signN 4 n := by
  unfold wrap32; simp only [signN, Nat.reduceMul, Nat.reduceSub, Nat.reducePow]; split <;> omega
theorem sign64 (n : Nat) (h : n < 18446744073709551616) : wrap64 (n : Int) = signN 8 n := by
  unfold wrap64; simp only [signN, Nat.reduceMul, Nat.reduceSub, Nat.reducePow]; split <;> omega
theorem signN_range {w n : Nat} (hw : w = 1 ∨ w = 2 ∨ w = 4 ∨ w = 8) (h : n < 256 ^ w) : -9223372036854775808 ≤ signN w n ∧ signN w n ≤ 9223372036854775807 := by
  rcases hw with rfl | rfl | rfl | rfl <;> simp only [signN, Nat.reduceMul, Nat.reduceSub, Nat.reducePow] at h ⊢ <;> split <;> omega
set_option maxHeartbeats 1600000 in
set_option maxRecDepth 100000 in
theorem read_none (b o m cap c : Nat) {w : World} (hc : 128 ≤ c ∧ c < 256) (hl3 : c = 128 → m < 3) (hno : c < 240 ∨ m < c - 240 ∨ (c ≠ 241 ∧ c ≠ 242 ∧ c ≠ 244 ∧ c ≠ 248)) (hm : m + 1 ≤ cap) (hcap1 : ¬ cap = 1) (hmx : m ≤ 4000000000) (h0 : w.cell? ⟨b, o, none⟩ = some (.int .u8 c)) :
    Calls Tryd.prog 43 #[.slice (some ⟨b, o, none⟩) (m + 1) cap] w fun e w' => e = .returned (.tuple #[.string ByteArray.empty, .int .i64 0, .bool false]) ∧ Below w.heap.size w w' := by
  obtain ⟨k, hk⟩ : ∃ k, c % 16 = k := ⟨_, rfl⟩
  obtain ⟨y, hy⟩ : ∃ y, c / 16 * 16 = y := ⟨_, rfl⟩
  have hand15 : bits .and .u8 (c : Int) 15 = (k : Int) := by
    rw [show (15 : Int) = ((15 : Nat) : Int) from rfl, u8_and_nat c 15 (by omega) (by omega), nat_mask4, hk]
  have hand240 : bits .and .u8 (c : Int) 240 = (y : Int) := by
    have h16 : ∀ c : Fin 256, bits .and .u8 ((c.val : Nat) : Int) 240 = ((c.val / 16 * 16 : Nat) : Int) := by decide +kernel
    rw [h16 ⟨c, hc.2⟩, hy]
  have hd1 : decide ((c : Int) < 128) = false := by simp; omega
  by_cases h128 : c = 128
  · have := hl3 h128
    subst h128
    obtain rfl : k = 0 := by omega
    obtain rfl : y = 128 := by omega
    have hd3 : decide ((3 : Int) ≤ m) = false := by simp; omega
    go_enter Tryd.func43, Tryd.ntmps43
    go_wp2_with fail
    go_ret3
    exact ⟨rfl, Below.refl _ _⟩
  · have hb128 : ((c : Int) == 128) = false := by simp; omega
    by_cases h240 : c < 240
    · have hn240 : ((y : Int) != 240) = true := by simp only [bne_iff_ne, ne_eq]; omega
      go_enter Tryd.func43, Tryd.ntmps43
      go_wp2_with fail
      go_ret3
      exact ⟨rfl, Below.refl _ _⟩
    · obtain rfl : y = 240 := by omega
      by_cases hmk : m < k
      · have hd4 : decide (m < k) = true := by simp; omega
        go_enter Tryd.func43, Tryd.ntmps43
        go_wp2_with fail
        go_ret3
        exact ⟨rfl, Below.refl _ _⟩
      · have hd4 : decide (m < k) = false := by simp; omega
        have e1 : ((k : Int) == 1) = false := by simp only [beq_eq_false_iff_ne, ne_eq]; omega
        have e2 : ((k : Int) == 2) = false := by simp only [beq_eq_false_iff_ne, ne_eq]; omega
        have e4 : ((k : Int) == 4) = false := by simp only [beq_eq_false_iff_ne, ne_eq]; omega
        have e8 : ((k : Int) == 8) = false := by simp only [beq_eq_false_iff_ne, ne_eq]; omega
        go_enter Tryd.func43, Tryd.ntmps43
        go_wp2_with fail
        go_ret3
        exact ⟨rfl, Below.refl _ _⟩
set_option maxHeartbeats 1600000 in
set_option maxRecDepth 100000 in
theorem read_int (b o m cap k : Nat) (xs : List UInt8) {w : World} (hl : Laid w) (hk : k = 1 ∨ k = 2 ∨ k = 4 ∨ k = 8) (hxs : xs.length = k) (hkm : k ≤ m) (hm : m + 1 ≤ cap) (hcap1 : ¬ cap = 1) (hmx : m ≤ 4000000000) (h0 : w.cell? ⟨b, o, none⟩ = some (.int .u8 ((240 + k : Nat) : Int)))
    (hcell : ∀ i (h : i < xs.length), w.cell? ⟨b, o + 1 + i, none⟩ = some (.int .u8 xs[i].toNat)) :
    Calls Tryd.prog 43 #[.slice (some ⟨b, o, none⟩) (m + 1) cap] w fun e w' => e = .returned (.tuple #[.string (intT (signN k (lowN xs))), .int .i64 ((1 + k : Nat) : Int), .bool true]) ∧ Below w.heap.size w w' := by
  have hlt := lowN_lt xs
  rw [hxs] at hlt
  have hsr := signN_range hk hlt
  have HWh := Lib.hid (whole_any (signN k (lowN xs)) hsr k (by omega) hl)
  have HLow := Lib.hid (low_any b (o + 1) k (cap - 1) xs w hxs (by omega) hcell)
  have hce : ∀ (w : World) (args : Array Value), (callFunc 76 args).run Tryd.prog w = .ok (.enter 76 args) w := fun _ _ => rfl
  have hd4 : decide (m < k) = false := by simp; omega
  rcases hk with rfl | rfl | rfl | rfl
  · obtain ⟨x, rfl⟩ : ∃ x, xs = [x] := by
      match xs, hxs with
      | [x], _ => exact ⟨x, rfl⟩
    have g0 := hcell 0 (by simp)
    simp only [List.getElem_cons_zero, Nat.add_zero] at g0
    have hx := x.toNat_lt
    have hs := sign8 x.toNat hx
    have e1 : lowN [x] = x.toNat := by simp [lowN]
    rw [e1] at HWh hsr ⊢
    generalize signN 1 x.toNat = v at *
    have a1 : bits .and .u8 241 15 = 1 := by decide
    have a2 : bits .and .u8 241 240 = 240 := by decide
    clear hl hcell HLow hlt e1
    go_enter Tryd.func43, Tryd.ntmps43
    go_wp2_with fail
    refine HWh.out.mono ?_
    rintro e w1 ⟨rfl, b1⟩
    have B1 := Lib.hid b1
    clear b1 HWh
    go_wp2_with fail
    go_ret3
    exact ⟨rfl, B1.out⟩
  · have hs := sign16 (lowN xs) hlt
    have hnn : lowN xs < 65536 := hlt
    generalize lowN xs = x at *
    generalize signN 2 x = v at *
    have a1 : bits .and .u8 242 15 = 2 := by decide
    have a2 : bits .and .u8 242 240 = 240 := by decide
    clear hl hcell hlt
    go_enter Tryd.func43, Tryd.ntmps43
    go_wp2_with fail
    refine HLow.out.mono ?_
    rintro e w1 ⟨rfl, rfl⟩
    go_wp2_with fail
    refine HWh.out.mono ?_
    rintro e w1 ⟨rfl, b1⟩
    have B1 := Lib.hid b1
    clear b1 HWh
    go_wp2_with fail
    go_ret3
    exact ⟨rfl, B1.out⟩
  · have hs := sign32 (lowN xs) hlt
    have hnn : lowN xs < 4294967296 := hlt
    generalize lowN xs = x at *
    generalize signN 4 x = v at *
    have a1 : bits .and .u8 244 15 = 4 := by decide
    have a2 : bits .and .u8 244 240 = 240 := by decide
    clear hl hcell hlt
    go_enter Tryd.func43, Tryd.ntmps43
    go_wp2_with fail
    refine HLow.out.mono ?_
    rintro e w1 ⟨rfl, rfl⟩
    go_wp2_with fail
    refine HWh.out.mono ?_
    rintro e w1 ⟨rfl, b1⟩
    have B1 := Lib.hid b1
    clear b1 HWh
    go_wp2_with fail
    go_ret3
    exact ⟨rfl, B1.out⟩
  · have hs := sign64 (lowN xs) hlt
    have hnn : lowN xs < 18446744073709551616 := hlt
    generalize lowN xs = x at *
    generalize signN 8 x = v at *
    have a1 : bits .and .u8 248 15 = 8 := by decide
    have a2 : bits .and .u8 248 240 = 240 := by decide
    clear hl hcell hlt
    go_enter Tryd.func43, Tryd.ntmps43
    go_wp2_with fail
    refine HLow.out.mono ?_
    rintro e w1 ⟨rfl, rfl⟩
    go_wp2_with fail
    refine HWh.out.mono ?_
    rintro e w1 ⟨rfl, b1⟩
    have B1 := Lib.hid b1
    clear b1 HWh
    go_wp2_with fail
    go_ret3
    exact ⟨rfl, B1.out⟩
/-- **pack.read, of any bytes.** -/
theorem read_any (b o n cap : Nat) (bs : List UInt8) {w : World} (hl : Laid w) (hn : bs.length = n) (hc : n < cap ∨ (n ≤ cap ∧ 2 ≤ n ∧ ((bs.getD 0 0).toNat = 128 → 5 ≤ n))) (hm : n ≤ 4000000000)
    (hcell : ∀ i (h : i < bs.length), w.cell? ⟨b, o + i, none⟩ = some (.int .u8 bs[i].toNat)) :
    Calls Tryd.prog 43 #[.slice (some ⟨b, o, none⟩) n cap] w fun e w' => e = .returned (readV bs) ∧ Below w.heap.size w w' := by
  cases bs with
  | nil =>
    obtain rfl : n = 0 := by simpa using hn.symm
    exact read_nil b o cap
  | cons c0 body =>
    obtain ⟨m, rfl⟩ : ∃ m, n = m + 1 := ⟨body.length, by simpa using hn.symm⟩
    have hbl : body.length = m := by simpa using hn
    have h0 := hcell 0 (by simp)
    simp only [List.getElem_cons_zero, Nat.add_zero] at h0
    have hb : ∀ i (h : i < body.length), w.cell? ⟨b, o + 1 + i, none⟩ = some (.int .u8 body[i].toNat) := fun i h => by
      have := hcell (i + 1) (by simp; omega)
      rw [show o + 1 + i = o + (i + 1) by omega]
      exact this
    have hlt := c0.toNat_lt
    have hcl : m + 1 ≤ cap := by omega
    have hc1 : ¬ cap = 1 := by omega
    have htk : ∀ k, k ≤ m → (body.take k).length = k ∧ ∀ i (h : i < (body.take k).length), w.cell? ⟨b, o + 1 + i, none⟩ = some (.int .u8 (body.take k)[i].toNat) := fun k hk => by
      refine ⟨by simp; omega, fun i h => ?_⟩
      simp only [List.length_take] at h
      rw [hb i (by omega)]; simp
    by_cases h128 : c0.toNat < 128
    · by_cases hcm : c0.toNat ≤ m
      · have := read_short b o m cap c0.toNat (body.take c0.toNat) (htk _ hcm).1 h128 hcl hc1 (by omega) h0 (fun _ => (htk _ hcm).2)
        rw [if_pos hcm] at this
        have e : readV (c0 :: body) = .tuple #[.string (strOf (body.take c0.toNat)), .int .i64 ((1 + c0.toNat : Nat) : Int), .bool true] := by
          unfold readV; rw [readL, if_pos h128, if_neg (by omega)]
        rw [e]; exact this
      · have := read_short b o m cap c0.toNat (List.replicate c0.toNat 0) (by simp) h128 hcl hc1 (by omega) h0 (fun h => absurd h hcm)
        rw [if_neg hcm] at this
        have e : readV (c0 :: body) = .tuple #[.string ByteArray.empty, .int .i64 0, .bool false] := by
          unfold readV; rw [readL, if_pos h128, if_pos (by omega)]
        rw [e]; exact this
    · by_cases hL : c0.toNat = 128 ∧ 3 ≤ m
      · obtain ⟨h8, h3⟩ := hL
        have hc2 : ¬ cap - 1 = 3 := by simp only [List.getD_cons_zero] at hc; omega
        obtain ⟨x0, x1, x2, r, rfl⟩ : ∃ x0 x1 x2 r, body = x0 :: x1 :: x2 :: r := by
          match body, hbl with
          | [], h => simp at h; omega
          | [_], h => simp at h; omega
          | [_, _], h => simp at h; omega
          | x0 :: x1 :: x2 :: r, _ => exact ⟨x0, x1, x2, r, rfl⟩
        have g0 := hb 0 (by simp)
        have g1 := hb 1 (by simp)
        have g2 := hb 2 (by simp)
        simp only [List.getElem_cons_zero, List.getElem_cons_succ, Nat.add_zero] at g0 g1 g2
        have b0 := x0.toNat_lt
        have b1 := x1.toNat_lt
        have b2 := x2.toNat_lt
        have eN : lowN ((x0 :: x1 :: x2 :: r).take 3) = x0.toNat + 256 * x1.toNat + 65536 * x2.toNat := by simp [lowN]; omega
        have hrl : r.length = m - 3 := by simp at hbl; omega
        rw [h8] at h0
        by_cases hcm : x0.toNat + 256 * x1.toNat + 65536 * x2.toNat ≤ m - 3
        · have := read_long b o m cap x0.toNat x1.toNat x2.toNat _ (r.take (x0.toNat + 256 * x1.toNat + 65536 * x2.toNat)) rfl (by simp; omega) ⟨b0, b1, b2⟩ h3 hcl hc1 hc2 (by omega) h0 g0 g1 g2 (fun _ i h => by
            simp only [List.length_take] at h
            have := hb (3 + i) (by simp; omega)
            rw [show o + 1 + 3 + i = o + 1 + (3 + i) by omega, this]
            simp [Nat.add_comm 3 i])
          rw [if_pos hcm] at this
          have e : readV (c0 :: x0 :: x1 :: x2 :: r) = .tuple #[.string (strOf (r.take (x0.toNat + 256 * x1.toNat + 65536 * x2.toNat))), .int .i64 ((4 + (x0.toNat + 256 * x1.toNat + 65536 * x2.toNat) : Nat) : Int), .bool true] := by
            unfold readV; rw [readL, if_neg h128, if_pos ⟨h8, by simp⟩, eN, if_neg (by simp; omega)]; rfl
          rw [e]; exact this
        · have := read_long b o m cap x0.toNat x1.toNat x2.toNat _ (List.replicate (x0.toNat + 256 * x1.toNat + 65536 * x2.toNat) 0) rfl (by simp) ⟨b0, b1, b2⟩ h3 hcl hc1 hc2 (by omega) h0 g0 g1 g2 (fun h => absurd h hcm)
          rw [if_neg hcm] at this
          have e : readV (c0 :: x0 :: x1 :: x2 :: r) = .tuple #[.string ByteArray.empty, .int .i64 0, .bool false] := by
            unfold readV; rw [readL, if_neg h128, if_pos ⟨h8, by simp⟩, eN, if_pos (by simp; omega)]
          rw [e]; exact this
      · by_cases hI : (c0.toNat = 241 ∨ c0.toNat = 242 ∨ c0.toNat = 244 ∨ c0.toNat = 248) ∧ c0.toNat - 240 ≤ m
        · obtain ⟨k, hk⟩ : ∃ k, c0.toNat = 240 + k := ⟨c0.toNat - 240, by omega⟩
          have hk' : c0.toNat - 240 = k := by omega
          rw [hk'] at hI
          rw [hk] at h0
          have := read_int b o m cap k (body.take k) hl (by omega) (htk k hI.2).1 hI.2 hcl hc1 (by omega) h0 (htk k hI.2).2
          have e : readV (c0 :: body) = .tuple #[.string (intT (signN k (lowN (body.take k)))), .int .i64 ((1 + k : Nat) : Int), .bool true] := by
            unfold readV; rw [readL, if_neg h128, if_neg (by rw [hbl]; exact hL), if_pos ⟨hI.1, by omega⟩, hk']
          rw [e]; exact this
        · have := read_none b o m cap c0.toNat ⟨by omega, hlt⟩ (fun h => by omega) (by omega) hcl hc1 (by omega) h0
          have e : readV (c0 :: body) = .tuple #[.string ByteArray.empty, .int .i64 0, .bool false] := by
            unfold readV; rw [readL, if_neg h128, if_neg (by rw [hbl]; exact hL), if_neg (by rw [hbl]; exact hI)]
          rw [e]; exact this
end Go.Proofs.YtcoepekoacpgnaaDoor
