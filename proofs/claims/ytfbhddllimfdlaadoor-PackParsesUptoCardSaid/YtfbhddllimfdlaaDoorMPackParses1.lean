/- Lemmas and walks for PackParses, part 3 of 4: the texts Doc1, Doc2, Doc3, Doc4, Doc5, Doc6, Doc7, Doc8, Apt, Doc9, Doc10, Doc11, PckP, Doc12, Doc13, Doc14, Doc15, Doc16, Doc17, Doc18, PckD, Doc19, Doc20, Doc21, Doc22, PckC, Doc23. -/
import Derived.Test.YtfbhddllimfdlaaDoorMB1
import Derived.Test.YtfbhddllimfdlaaDoorMB2
/- The document's Int says what num.Int says: plain law. -/
namespace Go.Proofs.YtfbhddllimfdlaaDoor
set_option linter.unusedVariables false
set_option linter.unusedSimpArgs false
open Go.RowKit
def decN (acc : Nat) : List UInt8 → Option Nat
  | [] => some acc
  | c :: r => if 48 ≤ c.toNat ∧ c.toNat ≤ 57 then decN (10 * acc + (c.toNat - 48)) r else none
theorem decN_append : ∀ (l r : List UInt8) (acc : Nat), decN acc (l ++ r) = (decN acc l).bind fun v => decN v r
  | [], r, acc => rfl
  | c :: l, r, acc => by
    simp only [List.cons_append, decN]
    split
    · exact decN_append l r _
    · rfl
theorem decN_ge : ∀ (l : List UInt8) (acc v : Nat), decN acc l = some v → acc ≤ v
  | [], acc, v, h => by simp only [decN, Option.some.injEq] at h; omega
  | c :: l, acc, v, h => by
    simp only [decN] at h
    split at h
    · have := decN_ge l _ v h; omega
    · cases h
theorem decN_parse {M : Nat} (hM : M < 18446744073709551616) : ∀ (l : List UInt8) (acc v : Nat), decN acc l = some v → v ≤ M → Lib.parseUintM M acc l = .ok v
  | [], acc, v, h, _ => by simp only [decN, Option.some.injEq] at h; simp [Lib.parseUintM, h]
  | c :: l, acc, v, h, hv => by
    simp only [decN] at h
    split at h
    · next hc =>
      have := decN_ge l _ v h
      simp only [Lib.parseUintM]
      rw [if_pos hc, if_neg (by omega), if_neg (by omega), show acc * 10 + (c.toNat - 48) = 10 * acc + (c.toNat - 48) by omega]
      exact decN_parse hM l _ v h hv
    · cases h
theorem dg_nat (d : Nat) (h : d < 10) : (UInt8.ofNat (48 + d)).toNat = 48 + d := by
  simp only [UInt8.toNat_ofNat']; omega
theorem dec_stp {u : Nat} (h : 9 < u) : Lib.decDigits u = Lib.decDigits (u / 10) ++ [UInt8.ofNat (48 + u % 10)] := by rw [Lib.decDigits, dif_neg (by omega)]
theorem decN_one (acc d : Nat) (h : d < 10) : decN acc [UInt8.ofNat (48 + d)] = some (10 * acc + d) := by
  simp only [decN]
  rw [dg_nat d h, if_pos (by omega)]
  congr 1; omega
theorem decN_dec (u : Nat) : decN 0 (Lib.decDigits u) = some u := by
  induction u using Nat.strongRecOn with
  | _ u ih =>
    by_cases h : 9 < u
    · rw [dec_stp h, decN_append, ih (u / 10) (by omega), Option.bind_some, decN_one _ _ (by omega)]
      congr 1; omega
    · rw [Lib.decDigits_one (by omega), decN_one _ _ (by omega)]
      congr 1; omega
theorem dec_ne (u : Nat) : Lib.decDigits u ≠ [] := by
  intro h
  have := Lib.decDigits_length u
  have := Lib.nDigits_pos u
  rw [h] at *
  simp only [List.length_nil] at *
  omega
theorem dec_hd (u : Nat) : ∃ c, (Lib.decDigits u).head? = some c ∧ 48 ≤ c.toNat ∧ c.toNat ≤ 57 ∧ (c = 48 → u = 0 ∧ (Lib.decDigits u).length = 1) := by
  induction u using Nat.strongRecOn with
  | _ u ih =>
    by_cases h : 9 < u
    · obtain ⟨c, h1, h2, h3, h4⟩ := ih (u / 10) (by omega)
      rw [dec_stp h]
      exact ⟨c, by rw [List.head?_append, h1]; rfl, h2, h3, fun e => absurd (h4 e).1 (by omega)⟩
    · rw [Lib.decDigits_one (by omega)]
      have := dg_nat u (by omega)
      refine ⟨_, rfl, by omega, by omega, fun e => ⟨?_, rfl⟩⟩
      have h3 : (48 : UInt8).toNat = 48 := rfl
      rw [e, h3] at this
      omega
theorem decN_last {l : List UInt8} {c : UInt8} {v : Nat} (h : decN 0 (l ++ [c]) = some v) : ∃ v', decN 0 l = some v' ∧ 48 ≤ c.toNat ∧ c.toNat ≤ 57 ∧ v = 10 * v' + (c.toNat - 48) := by
  rw [decN_append] at h
  cases hp : decN 0 l with
  | none => rw [hp] at h; cases h
  | some v' =>
    rw [hp, Option.bind_some] at h
    simp only [decN] at h
    split at h
    · next hc => cases h; exact ⟨v', rfl, hc.1, hc.2, rfl⟩
    · cases h
theorem dec_can : ∀ (k : Nat) (l : List UInt8) (v : Nat), l.length = k + 1 → (1 < l.length → l.head? ≠ some 48) → decN 0 l = some v → Lib.decDigits v = l := by
  intro k
  induction k with
  | zero =>
    intro l v hl hh hp
    obtain ⟨c, rfl⟩ : ∃ c, l = [c] := List.length_eq_one_iff.1 hl
    obtain ⟨v', h1, h2, h3, h4⟩ := decN_last (l := []) hp
    simp only [decN] at h1
    cases h1
    rw [Lib.decDigits_one (by omega), show 48 + v = c.toNat by omega]
    simp
  | succ k ih =>
    intro l v hl hh hp
    have hne : l ≠ [] := fun e => by rw [e] at hl; simp at hl
    obtain ⟨l', c, rfl⟩ : ∃ l' c, l = l' ++ [c] := ⟨l.dropLast, l.getLast hne, (List.dropLast_concat_getLast hne).symm⟩
    obtain ⟨v', h1, h2, h3, h4⟩ := decN_last hp
    have hl' : l'.length = k + 1 := by simpa using hl
    have hne' : l' ≠ [] := fun e => by rw [e] at hl'; simp at hl'
    have hhd : l'.head? ≠ some 48 := fun e => hh (by simp; omega) (by rw [List.head?_append, e]; rfl)
    have hd := ih l' v' hl' (fun _ => hhd) h1
    have hv0 : v' ≠ 0 := fun e => by
      rw [e, Lib.decDigits_one (by omega)] at hd
      rw [← hd] at hhd
      exact hhd rfl
    rw [dec_stp (by omega), show v / 10 = v' by omega, hd, show 48 + v % 10 = c.toNat by omega]
    simp
theorem dec_short (u : Nat) (h : u < 10000000000000000000) : (Lib.decDigits u).length ≤ 19 := by
  rw [Lib.decDigits_length]
  rcases Nat.lt_or_ge 19 (Lib.nDigits u) with h1 | h1
  · exfalso
    have key : ∀ k u, k + 1 ≤ Lib.nDigits u → 10 ^ k ≤ u ∨ k = 0 := by
      intro k
      induction k with
      | zero => intros; exact .inr rfl
      | succ k ih =>
        intro u hu
        by_cases h : u < 10
        · rw [Lib.nDigits_small h] at hu; omega
        · rw [Lib.nDigits_big h] at hu
          rcases ih (u / 10) (by omega) with h2 | h2
          · left; rw [Nat.pow_succ]; omega
          · left; rw [h2]; omega
    rcases key 19 u (by omega) with h2 | h2
    · have : (10 : Nat) ^ 19 = 10000000000000000000 := by decide
      omega
    · omega
  · exact h1
/-- What the document's Int says. -/
def negB (l : List UInt8) : Bool := l.head? == some 45
def refIntL (l : List UInt8) : Option Int :=
  let d := if negB l then l.drop 1 else l
  if d = [] ∨ 20 < l.length ∨ (d.head? = some 48 ∧ (negB l = true ∨ 1 < l.length)) then none
  else match decN 0 d with
    | none => none
    | some v => if negB l then (if v ≤ 9223372036854775808 then some (-(v : Int)) else none) else (if v ≤ 9223372036854775807 then some (v : Int) else none)
theorem negB_dec (u : Nat) : negB (Lib.decDigits u) = false := by
  obtain ⟨c, h1, h2, h3, _⟩ := dec_hd u
  unfold negB
  rw [h1]
  rw [beq_eq_false_iff_ne]
  intro e
  cases Option.some.inj e
  have : (45 : UInt8).toNat = 45 := rfl
  omega
theorem ref_itoa (n : Int) (hn : -9223372036854775808 ≤ n ∧ n ≤ 9223372036854775807) : refIntL (Lib.itoa n) = some n := by
  unfold Lib.itoa
  split
  · next h =>
    obtain ⟨u, hu⟩ : ∃ u, n.natAbs = u := ⟨_, rfl⟩
    rw [hu]
    have h1 : negB (45 :: Lib.decDigits u) = true := by unfold negB; rfl
    obtain ⟨c, h2, h3, h4, h5⟩ := dec_hd u
    have h6 := dec_short u (by omega)
    unfold refIntL
    simp only [h1, if_true, List.drop_succ_cons, List.drop_zero]
    rw [if_neg, decN_dec]
    · simp only
      rw [if_pos (by omega)]
      congr 1; omega
    · rintro (e | e | ⟨e, _⟩)
      · exact dec_ne u e
      · simp only [List.length_cons] at e; omega
      · rw [h2] at e
        have := (h5 (Option.some.inj e)).1
        omega
  · next h =>
    obtain ⟨u, hu⟩ : ∃ u, n.toNat = u := ⟨_, rfl⟩
    rw [hu]
    have h1 := negB_dec u
    obtain ⟨c, h2, h3, h4, h5⟩ := dec_hd u
    have h6 := dec_short u (by omega)
    unfold refIntL
    simp only [h1, Bool.false_eq_true, if_false]
    rw [if_neg, decN_dec]
    · simp only
      rw [if_pos (by omega)]
      congr 1; omega
    · rintro (e | e | ⟨e, e2⟩)
      · exact dec_ne u e
      · omega
      · rw [h2] at e
        have := (h5 (Option.some.inj e)).2
        rcases e2 with e2 | e2
        · cases e2
        · omega
theorem ref_some {l : List UInt8} {n : Int} (h : refIntL l = some n) : l = Lib.itoa n ∧ -9223372036854775808 ≤ n ∧ n ≤ 9223372036854775807 := by
  unfold refIntL at h
  by_cases hb : negB l = true
  · simp only [hb, if_true] at h
    split at h
    · cases h
    · next hc =>
      have c1 := fun e => hc (.inl e)
      have c3 := fun e => hc (.inr (.inr e))
      clear hc
      split at h
      · cases h
      · next v hv =>
        split at h
        · next hle =>
          cases h
          have hcan := dec_can ((l.drop 1).length - 1) (l.drop 1) v (by have := List.length_pos_iff.2 c1; omega) (fun _ e => c3 ⟨e, .inl trivial⟩) hv
          have hl : l = 45 :: l.drop 1 := by
            cases l with
            | nil => exact absurd rfl c1
            | cons c r =>
              unfold negB at hb
              rw [List.head?_cons, beq_iff_eq] at hb
              rw [Option.some.inj hb]; rfl
          have hv0 : v ≠ 0 := fun e => by
            rw [e, Lib.decDigits_one (by omega)] at hcan
            exact c3 ⟨by rw [← hcan]; rfl, .inl trivial⟩
          refine ⟨?_, by omega, by omega⟩
          unfold Lib.itoa
          rw [if_pos (by omega), show (-(v : Int)).natAbs = v by omega, hcan]
          exact hl
        · cases h
  · have hb' : negB l = false := by simpa using hb
    simp only [hb', Bool.false_eq_true, if_false] at h
    split at h
    · cases h
    · next hc =>
      have c1 := fun e => hc (.inl e)
      have c3 := fun e => hc (.inr (.inr e))
      clear hc
      split at h
      · cases h
      · next v hv =>
        split at h
        · next hle =>
          cases h
          have hcan := dec_can (l.length - 1) l v (by have := List.length_pos_iff.2 c1; omega) (fun e1 e => c3 ⟨e, .inr e1⟩) hv
          refine ⟨?_, by omega, by omega⟩
          unfold Lib.itoa
          rw [if_neg (by omega), show ((v : Int)).toNat = v by omega, hcan]
        · cases h
theorem intS_of {n : Int} (hn : -9223372036854775808 ≤ n ∧ n ≤ 9223372036854775807) : intS (intT n) = some n := by
  have hp : Lib.parseIntB 64 (Lib.itoa n) = .ok n := by
    unfold Lib.itoa
    split
    · next h =>
      obtain ⟨u, hu⟩ : ∃ u, n.natAbs = u := ⟨_, rfl⟩
      rw [hu]
      have h1 := decN_parse (M := 18446744073709551615) (by omega) _ 0 u (decN_dec u) (by omega)
      have h2 : Lib.parseUintB 64 (Lib.decDigits u) = .ok u := by
        unfold Lib.parseUintB
        rw [if_neg (dec_ne u)]
        exact h1
      unfold Lib.parseIntB
      have h45 : (45 : UInt8).toNat = 45 := rfl
      simp only [h45, or_true, if_true, h2]
      simp only [not_true, false_and, if_false, true_and, Nat.reducePow, Nat.reduceSub]
      rw [if_neg (by omega)]
      congr 1; omega
    · next h =>
      obtain ⟨u, hu⟩ : ∃ u, n.toNat = u := ⟨_, rfl⟩
      rw [hu]
      have h1 := decN_parse (M := 18446744073709551615) (by omega) _ 0 u (decN_dec u) (by omega)
      have h2 : Lib.parseUintB 64 (Lib.decDigits u) = .ok u := by
        unfold Lib.parseUintB
        rw [if_neg (dec_ne u)]
        exact h1
      obtain ⟨c, g1, g2, g3, _⟩ := dec_hd u
      obtain ⟨r, hr⟩ : ∃ r, Lib.decDigits u = c :: r := by
        cases hd : Lib.decDigits u with
        | nil => exact absurd hd (dec_ne u)
        | cons a r => rw [hd] at g1; cases g1; exact ⟨r, rfl⟩
      rw [hr] at h2 ⊢
      unfold Lib.parseIntB
      simp only
      rw [if_neg (by omega), h2]
      simp only [show ¬ c.toNat = 45 by omega, not_false_eq_true, true_and, false_and, if_false, Nat.reducePow, Nat.reduceSub]
      rw [if_neg (by omega)]
      congr 1; omega
  unfold intS intT
  rw [strOf_data, hp]
  simp
theorem refInt_intS (s : ByteArray) : refIntL s.data.toList = intS s := by
  cases h : intS s with
  | some n =>
    have h1 := intS_range h
    have h2 := intS_text h
    have h3 := ref_itoa n h1
    rw [← h2]
    unfold intT
    rw [strOf_data]
    exact h3
  | none =>
    cases h1 : refIntL s.data.toList with
    | none => rfl
    | some n =>
      obtain ⟨e, h2⟩ := ref_some h1
      have : s = intT n := by
        unfold intT
        rw [← e, strOf_toList]
      rw [this, intS_of h2] at h
      cases h
end Go.Proofs.YtfbhddllimfdlaaDoor

/- The document's whole numbers of any length: trim, of, times, compare. -/
namespace Go.Proofs.YtfbhddllimfdlaaDoor
set_option linter.unusedVariables false
set_option linter.unusedSimpArgs false
open Go.RowKit
def u32v (n : Nat) : Value := .int .u32 (n : Int)
def valW : List Nat → Nat
  | [] => 0
  | x :: r => x + 4294967296 * valW r
theorem valW_append : ∀ (l r : List Nat), valW (l ++ r) = valW l + 4294967296 ^ l.length * valW r
  | [], r => by simp [valW]
  | x :: l, r => by
    simp only [List.cons_append, valW, List.length_cons, valW_append l r, Nat.pow_succ]
    rw [Nat.mul_add, Nat.mul_comm (4294967296 ^ l.length) 4294967296, Nat.mul_assoc, Nat.add_assoc]
def OkW (l : List Nat) : Prop := ∀ x ∈ l, x < 4294967296
def CanW (l : List Nat) : Prop := OkW l ∧ l.getLast? ≠ some 0
theorem valW_lt : ∀ {l : List Nat}, OkW l → valW l < 4294967296 ^ l.length
  | [], _ => by simp [valW]
  | x :: l, h => by
    have h1 := h x (List.mem_cons_self ..)
    have h2 := valW_lt (l := l) fun y hy => h y (List.mem_cons_of_mem _ hy)
    simp only [valW, List.length_cons, Nat.pow_succ]
    omega
theorem valW_ge {l : List Nat} (h : CanW l) (hne : l ≠ []) : 4294967296 ^ (l.length - 1) ≤ valW l := by
  have e := (List.dropLast_concat_getLast hne)
  have hl : l.getLast hne ≠ 0 := fun e => h.2 (by rw [List.getLast?_eq_some_getLast hne, e])
  rw [← e, valW_append]
  simp only [valW, List.length_append, List.length_singleton, Nat.add_sub_cancel]
  have := Nat.le_mul_of_pos_right (4294967296 ^ l.dropLast.length) (Nat.pos_of_ne_zero hl)
  rw [Nat.mul_zero, Nat.add_zero]
  omega
theorem can_len {l : List Nat} (h : CanW l) (hv : valW l < 79228162514264337593543950336) : l.length ≤ 3 := by
  rcases Nat.lt_or_ge 3 l.length with h1 | h1
  · exfalso
    have h2 := valW_ge h (fun e => by rw [e] at h1; simp at h1)
    have h3 := Nat.pow_le_pow_right (n := 4294967296) (by omega) (show 3 ≤ l.length - 1 by omega)
    have : (4294967296 : Nat) ^ 3 = 79228162514264337593543950336 := by decide
    omega
  · exact h1
abbrev W32 (w : World) (B : Nat) (v : Value) (xs : List Nat) : Prop := SliceIs w B 146 v xs.length (xs.map u32v)
theorem take_last {xs : List Nat} {k : Nat} (hk : k < xs.length) (h0 : xs[k] = 0) : valW (xs.take k) = valW (xs.take (k + 1)) := by
  rw [List.take_succ_eq_append_getElem hk, valW_append, h0]
  simp [valW]
set_option maxHeartbeats 800000 in
set_option maxRecDepth 100000 in
theorem trim_any {w : World} {B : Nat} {v : Value} {xs : List Nat} (h : W32 w B v xs) (ok : OkW xs) :
    Calls Tryd.prog 125 #[v] w fun e w' => ∃ v', e = .returned v' ∧ w' = w ∧ ∃ ys, W32 w B v' ys ∧ CanW ys ∧ valW ys = valW xs := by
  rcases h.2 with ⟨rfl, hn⟩ | ⟨g, cap, cur, rfl, hg, hrow, hcs, hnc, hcm, htk⟩
  · have hx : xs = [] := List.eq_nil_of_length_eq_zero hn
    subst hx
    go_enter Tryd.func125, Tryd.ntmps125
    go_wp2_with fail
    go_loop [0] (fun b => b = .slice none 0 0) (fun _ => 0)
    case atStart => rfl
    case round =>
      subst hrel
      go_wp2_with fail
      go_ret
      exact ⟨_, rfl, rfl, [], SliceIs.nil _ _ _, ⟨fun _ h => (by cases h), by simp⟩, rfl⟩
  · have hc : ∀ i (hi : i < xs.length), w.cell? ⟨g, i, none⟩ = some (.int .u32 (xs[i] : Int)) := fun i hi => by
      refine hrow.cell ?_
      have e := congrArg (fun l => l[i]?) htk
      simp only [List.getElem?_take_of_lt hi, Array.getElem?_toList, List.getElem?_map, List.getElem?_eq_getElem hi, Option.map_some] at e
      exact e
    have HC := Lib.hid hc
    have HS := Lib.hid (show ∀ k, k ≤ xs.length → W32 w B (.slice (some ⟨g, 0, none⟩) k cap) (xs.take k) from fun k hk => by
      have e : (xs.take k).length = k := by rw [List.length_take]; omega
      unfold W32
      rw [e]
      refine ⟨by rw [List.length_map, e], .inr ⟨g, cap, cur, rfl, hg, hrow, hcs, by omega, hcm, ?_⟩⟩
      have e2 := congrArg (fun l => l.take k) htk
      rwa [List.take_take, Nat.min_eq_left hk, ← List.map_take] at e2)
    have HO := Lib.hid ok
    obtain ⟨n, hn⟩ : ∃ n, xs.length = n := ⟨_, rfl⟩
    have HN := Lib.hid hn
    rw [hn] at hnc ⊢
    clear hc h ok htk hrow hcs hn
    unfold maxLen at hcm
    go_enter Tryd.func125, Tryd.ntmps125
    go_wp2_with fail
    go_loop [0] (fun b => ∃ k : Nat, k ≤ n ∧ b = .slice (some ⟨g, 0, none⟩) k cap ∧ Hid (valW (xs.take k) = valW xs)) (fun b => match b with | .slice _ k _ => k | _ => 0)
    case atStart => exact ⟨n, Nat.le_refl _, rfl, Lib.hid (by rw [← HN.out, List.take_length])⟩
    case round =>
      obtain ⟨k, hk, rfl, hV⟩ := hrel
      have hfin := HS.out k (by rw [HN.out]; exact hk)
      by_cases h0 : k = 0
      · subst h0
        clear hfin
        go_wp2_with fail
        go_ret
        refine ⟨_, rfl, rfl, [], ?_, ⟨fun _ h => (by cases h), by simp⟩, ?_⟩
        · simpa using HS.out 0 (Nat.zero_le _)
        · simpa using hV.out
      · obtain ⟨j, rfl⟩ : ∃ j, k = j + 1 := ⟨k - 1, by omega⟩
        have hjl : j < xs.length := by rw [HN.out]; omega
        have hcell := HC.out j hjl
        have hx : xs[j] < 4294967296 := HO.out _ (List.getElem_mem hjl)
        have hT := Lib.hid (fun h => take_last hjl h)
        have hLst := Lib.hid (show (xs.take (j + 1)).getLast? = some xs[j] by rw [List.take_succ_eq_append_getElem hjl, List.getLast?_append]; rfl)
        obtain ⟨x, hxe⟩ : ∃ x, xs[j] = x := ⟨_, rfl⟩
        rw [hxe] at hcell hx hT hLst
        have HF := Lib.hid hfin
        clear hxe hfin
        by_cases hz : x = 0
        · subst hz
          go_wp2_with fail
          go_round
          case rel => exact ⟨j, by omega, rfl, Lib.hid (by rw [hT.out rfl]; exact hV.out)⟩
          case measure => simp
        · go_wp2_with fail
          go_ret
          refine ⟨_, rfl, rfl, xs.take (j + 1), HF.out, ⟨fun y hy => HO.out y (List.mem_of_mem_take hy), ?_⟩, hV.out⟩
          rw [hLst.out]
          simp; omega
end Go.Proofs.YtfbhddllimfdlaaDoor

/- times ten, of. -/
namespace Go.Proofs.YtfbhddllimfdlaaDoor
set_option linter.unusedVariables false
set_option linter.unusedSimpArgs false
open Go.RowKit
theorem info_u32 : (Tryd.prog.info? 146).map (fun i => (i.zero, i.size, i.bytes)) = some (some (.int .u32 0), 1, 4) := by kernel_rfl
theorem append32 {w : World} {B : Nat} {v : Value} {xs : List Nat} (h : W32 w B v xs) (hB : B ≤ w.heap.size) (x : Nat) (hn : xs.length + 1 ≤ 1000000) :
    ∃ v' w', (Builtin.append_ #[141, 141] 141 #[v, .slice (some ⟨w.heap.size, 0, none⟩) 1 1]).run Tryd.prog (w.alloc (.cells #[.int .u32 (x : Int)] 146)) = .ok v' w' ∧ W32 w' B v' (xs ++ [x]) ∧ Below B w w' := by
  obtain ⟨i0, g1, g2, g3, g4⟩ := info_parts info_u32
  have := run_append_one (P := Tryd.prog) (t := 141) (ty := 141) Tryd.underlying141 g1 g2 g3 g4 rfl h hB (u32v x) rfl (by unfold maxLen; omega) (by omega)
  unfold W32
  rw [List.map_append, List.length_append]
  exact this
theorem OkW.push {l : List Nat} (h : OkW l) {x : Nat} (hx : x < 4294967296) : OkW (l ++ [x]) := fun y hy => by
  rcases List.mem_append.1 hy with h1 | h1
  · exact h y h1
  · rw [List.mem_singleton.1 h1]; exact hx
theorem times_step {ys xs : List Nat} {k c b add : Nat} (hl : ys.length = k) (hv : valW ys + 4294967296 ^ k * c = valW (xs.take k) * 10 + add) (hk : k < xs.length) (hb : xs[k] = b) :
    valW (ys ++ [(c + b * 10) % 4294967296]) + 4294967296 ^ (k + 1) * ((c + b * 10) / 4294967296) = valW (xs.take (k + 1)) * 10 + add := by
  rw [List.take_succ_eq_append_getElem hk, valW_append, valW_append, hb, hl, List.length_take, Nat.min_eq_left (by omega), Nat.pow_succ]
  simp only [valW, Nat.mul_zero, Nat.add_zero]
  obtain ⟨P, hP⟩ : ∃ P, 4294967296 ^ k = P := ⟨_, rfl⟩
  rw [hP] at hv ⊢
  have e := Nat.mod_add_div (c + b * 10) 4294967296
  obtain ⟨q, hq⟩ : ∃ q, (c + b * 10) / 4294967296 = q := ⟨_, rfl⟩
  obtain ⟨r, hr⟩ : ∃ r, (c + b * 10) % 4294967296 = r := ⟨_, rfl⟩
  rw [hq, hr] at e ⊢
  have e2 : P * (r + 4294967296 * q) = P * c + P * (b * 10) := by rw [e, Nat.mul_add]
  rw [Nat.mul_add] at e2
  rw [Nat.mul_assoc P 4294967296 q, Nat.add_mul, Nat.mul_assoc P b 10]
  omega
set_option maxHeartbeats 1600000 in
set_option maxRecDepth 100000 in
theorem times_any {w : World} {B : Nat} {v : Value} {xs : List Nat} (h : W32 w B v xs) (ok : OkW xs) (hx : xs.length ≤ 1000) (add : Nat) (ha : add < 4294967296) :
    Calls Tryd.prog 113 #[v, .int .u64 10, .int .u64 (add : Int)] w fun e w' => ∃ v', e = .returned v' ∧ Below w.heap.size w w' ∧ ∃ ys, W32 w' w.heap.size v' ys ∧ CanW ys ∧ valW ys = valW xs * 10 + add := by
  obtain ⟨a, cap, rfl, hA⟩ := h.arg
  have hlc := hA.1
  have HA := Lib.hid hA
  have HO := Lib.hid ok
  obtain ⟨n, hn⟩ : ∃ n, xs.length = n := ⟨_, rfl⟩
  have HN := Lib.hid hn
  rw [hn] at hlc hx ⊢
  clear h hA ok hn
  go_enter Tryd.func113, Tryd.ntmps113
  go_wp2_with fail
  go_loopw [7, 8, 9] (fun o c i wr => ∃ (k : Nat) (ys : List Nat) (y : Nat), k ≤ n ∧ i = .int .i64 k ∧ c = .int .u64 (y : Int) ∧ y < 4294967296 ∧ Hid (W32 wr w.heap.size o ys ∧ Below w.heap.size w wr) ∧ Hid (OkW ys ∧ ys.length = k ∧ valW ys + 4294967296 ^ k * y = valW (xs.take k) * 10 + add)) (fun _ _ i _ => n - (intOf i).toNat)
  case atStart => exact ⟨0, [], add, Nat.zero_le _, rfl, rfl, ha, Lib.hid ⟨SliceIs.nil _ _ _, Below.refl _ _⟩, Lib.hid ⟨fun _ h => (by cases h), rfl, by simp [valW]⟩⟩
  case round =>
    obtain ⟨k, ys, y, hk, rfl, rfl, hy, hI, hJ⟩ := hrel
    by_cases hlt : k < n
    · have hkl : k < xs.length := by rw [HN.out]; exact hlt
      obtain ⟨b, o, rfl, hc⟩ := HA.out.2.resolve_left (by rw [HN.out]; omega)
      have hck : w.cell? ⟨b, o + k, none⟩ = some ((xs.map u32v).getD k undef) := hc k (by rw [HN.out]; exact hlt)
      have hst := times_step hJ.out.2.1 hJ.out.2.2 hkl rfl
      have hxk : xs[k] < 4294967296 := HO.out _ (List.getElem_mem hkl)
      have hgd : (xs.map u32v).getD k undef = .int .u32 (xs[k] : Int) := by simp [List.getD, hkl, u32v]
      rw [hgd] at hck
      have hcw := (hI.out.2.cell (World.block_lt_of_cell? w _ hck)).trans hck
      obtain ⟨x, hxe⟩ : ∃ x, xs[k] = x := ⟨_, rfl⟩
      rw [hxe] at hck hcw hxk hst
      obtain ⟨z, hz⟩ : ∃ z, (y + x * 10) % 4294967296 = z := ⟨_, rfl⟩
      obtain ⟨q, hq⟩ : ∃ q, (y + x * 10) / 4294967296 = q := ⟨_, rfl⟩
      rw [hz, hq] at hst
      have hzl : z < 4294967296 := by omega
      have hql : q < 4294967296 := by omega
      obtain ⟨v2, w2, r2, s2, b2⟩ := append32 hI.out.1 hI.out.2.size z (by rw [hJ.out.2.1]; omega)
      have HR2 := Lib.hid r2
      have HNw := Lib.hid (And.intro s2 (hI.out.2.trans b2))
      have HSt := Lib.hid (show OkW (ys ++ [z]) ∧ (ys ++ [z]).length = k + 1 ∧ _ from ⟨hJ.out.1.push hzl, by simp [hJ.out.2.1], hst⟩)
      have hzi : ((y : Int) + (x : Int) * 10) % 4294967296 = (z : Int) := by omega
      have hqi : ((y : Int) + (x : Int) * 10) / 4294967296 = (q : Int) := by omega
      clear hst r2 s2 b2 hck hc hz hq hxe hgd hkl
      go_wp2_with (at_builtin; refine wpList_append_run rfl rfl HR2.out ?_)
      go_roundw
      case rel => exact ⟨k + 1, _, q, by omega, by go_num, by go_num, hql, HNw, HSt⟩
      case measure => simp [intOf]; omega
    · obtain rfl : k = n := by omega
      have hfin : valW ys + 4294967296 ^ k * y = valW xs * 10 + add := by rw [hJ.out.2.2, ← HN.out, List.take_length]
      by_cases h0 : y = 0
      · subst h0
        have HT := Lib.hid (trim_any hI.out.1 hJ.out.1)
        have HFi := Lib.hid hfin
        clear hfin
        go_wp2_with fail
        refine HT.out.mono ?_
        rintro e w' ⟨v', rfl, rfl, ys', g1, g2, g3⟩
        have HG := Lib.hid (And.intro g1 (And.intro g2 g3))
        clear g1 g2 g3 HT
        go_wp2_with fail
        go_ret
        exact ⟨_, rfl, hI.out.2, ys', HG.out.1, HG.out.2.1, by rw [HG.out.2.2, ← HFi.out]; simp⟩
      · obtain ⟨v2, w2, r2, s2, b2⟩ := append32 hI.out.1 hI.out.2.size y (by rw [hJ.out.2.1]; omega)
        have HR2 := Lib.hid r2
        have HT := Lib.hid (trim_any s2 (hJ.out.1.push hy))
        have HB := Lib.hid (hI.out.2.trans b2)
        have HFi := Lib.hid (show valW (ys ++ [y]) = valW xs * 10 + add by rw [valW_append, hJ.out.2.1, ← hfin]; simp [valW])
        clear hfin r2 s2 b2
        go_wp2_with (at_builtin; refine wpList_append_run rfl rfl HR2.out ?_)
        refine HT.out.mono ?_
        rintro e w' ⟨v', rfl, rfl, ys', g1, g2, g3⟩
        have HG := Lib.hid (And.intro g1 (And.intro g2 g3))
        clear g1 g2 g3 HT
        go_wp2_with fail
        go_ret
        exact ⟨_, rfl, HB.out, ys', HG.out.1, HG.out.2.1, by rw [HG.out.2.2, ← HFi.out]⟩
end Go.Proofs.YtfbhddllimfdlaaDoor

/- of, compare, digit, whole, IntText. -/
namespace Go.Proofs.YtfbhddllimfdlaaDoor
set_option linter.unusedVariables false
set_option linter.unusedSimpArgs false
open Go.RowKit
set_option maxHeartbeats 800000 in
set_option maxRecDepth 100000 in
theorem of_any (n : Nat) (hn : n < 18446744073709551616) (w : World) :
    Calls Tryd.prog 114 #[.int .u64 (n : Int)] w fun e w' => ∃ v', e = .returned v' ∧ Below w.heap.size w w' ∧ ∃ ys, W32 w' w.heap.size v' ys ∧ CanW ys ∧ valW ys = n := by
  obtain ⟨lo, hlo⟩ : ∃ lo, n % 4294967296 = lo := ⟨_, rfl⟩
  obtain ⟨hi, hhi⟩ : ∃ hi, n / 4294967296 = hi := ⟨_, rfl⟩
  have e1 : (n : Int) % 4294967296 = (lo : Int) := by omega
  have e2 : (n : Int) / 4294967296 = (hi : Int) := by omega
  have hl : lo < 4294967296 := by omega
  have hh : hi < 4294967296 := by omega
  obtain ⟨w1, hw1⟩ : ∃ w1, w1 = w.alloc (.cells #[.int .u32 (lo : Int), .int .u32 (hi : Int)] 146) := ⟨_, rfl⟩
  have hs : W32 w1 w.heap.size (.slice (some ⟨w.heap.size, 0, none⟩) 2 2) [lo, hi] :=
    ⟨rfl, .inr ⟨w.heap.size, 2, _, rfl, Nat.le_refl _, .of (by rw [hw1]; exact heap_new _ _), rfl, Nat.le_refl _, by unfold maxLen; omega, rfl⟩⟩
  have HT := Lib.hid (trim_any hs (fun x hx => by rcases List.mem_cons.1 hx with rfl | hx; exact hl; rw [List.mem_singleton.1 hx]; exact hh))
  have HB := Lib.hid (show Below w.heap.size w w1 by rw [hw1]; exact (Below.refl _ _).alloc (Nat.le_refl _) _)
  have HV := Lib.hid (show valW [lo, hi] = n by simp only [valW]; omega)
  have HW := Lib.hid hw1
  clear hs hw1 hlo hhi
  go_enter Tryd.func114, Tryd.ntmps114
  go_wp2_with fail
  rw [← HW.out]
  refine HT.out.mono ?_
  rintro e w' ⟨v', rfl, rfl, ys', g1, g2, g3⟩
  have HG := Lib.hid (And.intro g1 (And.intro g2 g3))
  clear g1 g2 g3 HT
  go_wp2_with fail
  go_ret
  exact ⟨_, rfl, HB.out, ys', HG.out.1, HG.out.2.1, by rw [HG.out.2.2, HV.out]⟩
theorem valW_split (l : List Nat) {k : Nat} (hk : k < l.length) : valW l = valW (l.take k) + 4294967296 ^ k * (l[k] + 4294967296 * valW (l.drop (k + 1))) := by
  have e := List.take_append_drop k l
  rw [List.drop_eq_getElem_cons hk] at e
  have h := valW_append (l.take k) (l[k] :: l.drop (k + 1))
  rw [e, List.length_take, Nat.min_eq_left (by omega)] at h
  exact h
theorem cmp_lt {xs ys : List Nat} {k : Nat} (ox : OkW xs) (hx : k < xs.length) (hy : k < ys.length) (hd : xs.drop (k + 1) = ys.drop (k + 1)) (hlt : xs[k] < ys[k]) : valW xs < valW ys := by
  rw [valW_split xs hx, valW_split ys hy, hd]
  have h1 : valW (xs.take k) < 4294967296 ^ k := by
    have := valW_lt (l := xs.take k) fun y hy => ox y (List.mem_of_mem_take hy)
    rwa [List.length_take, Nat.min_eq_left (by omega)] at this
  obtain ⟨P, hP⟩ : ∃ P, 4294967296 ^ k = P := ⟨_, rfl⟩
  rw [hP] at h1 ⊢
  have h2 : P * (xs[k] + 1 + 4294967296 * valW (ys.drop (k + 1))) ≤ P * (ys[k] + 4294967296 * valW (ys.drop (k + 1))) := Nat.mul_le_mul_left _ (by omega)
  rw [show xs[k] + 1 + 4294967296 * valW (ys.drop (k + 1)) = (xs[k] + 4294967296 * valW (ys.drop (k + 1))) + 1 by omega, Nat.mul_add, Nat.mul_one] at h2
  omega
theorem cmp_len {xs ys : List Nat} (cx : OkW xs) (cy : CanW ys) (h : xs.length < ys.length) : valW xs < valW ys := by
  have h1 := valW_lt cx
  have h2 := valW_ge cy (fun e => by rw [e] at h; simp at h)
  have h3 := Nat.pow_le_pow_right (n := 4294967296) (by omega) (show xs.length ≤ ys.length - 1 by omega)
  omega
def CmpR (xs ys : List Nat) (e : Ending) : Prop := ∃ c : Int, e = .returned (.int .i64 c) ∧ (0 < c ↔ valW ys < valW xs)
set_option maxHeartbeats 1600000 in
set_option maxRecDepth 100000 in
theorem compare_any {w : World} {B C : Nat} {v u : Value} {xs ys : List Nat} (h : W32 w B v xs) (cx : CanW xs) (hu : W32 w C u ys) (cy : CanW ys) :
    Calls Tryd.prog 115 #[v, u] w fun e w' => CmpR xs ys e ∧ Below w.heap.size w w' := by
  obtain ⟨a, ca, rfl, hA⟩ := h.arg
  obtain ⟨b, cb, rfl, hB⟩ := hu.arg
  have hla := hA.1
  have hlb := hB.1
  have HA := Lib.hid hA
  have HB := Lib.hid hB
  have hmx : xs.length ≤ maxLen ∧ ys.length ≤ maxLen := by
    constructor
    · rcases h.2 with ⟨_, h2⟩ | ⟨_, _, _, _, _, _, _, h2, h3, _⟩ <;> omega
    · rcases hu.2 with ⟨_, h2⟩ | ⟨_, _, _, _, _, _, _, h2, h3, _⟩ <;> omega
  unfold maxLen at hmx
  have HX := Lib.hid cx
  have HY := Lib.hid cy
  clear h hu hA hB cx cy
  by_cases hne : xs.length = ys.length
  · obtain ⟨n, hn⟩ : ∃ n, ys.length = n := ⟨_, rfl⟩
    have HNy := Lib.hid hn
    rw [hn] at hne hlb hmx
    have HNx := Lib.hid hne
    rw [hne] at hla hmx ⊢
    rw [hn]
    clear hne hn
    have hn63 : n ≤ 2 ^ 63 - 1 := hmx.1
    clear hmx
    have hne1 : ((n : Int) != (n : Int)) = false := by simp
    go_enter Tryd.func115, Tryd.ntmps115
    go_wp2_with fail
    go_loopw [5] (fun i wr => ∃ k : Nat, k ≤ n ∧ i = .int .i64 ((k : Int) - 1) ∧ Hid (xs.drop k = ys.drop k) ∧ Hid (Below w.heap.size w wr)) (fun i _ => (intOf i + 1).toNat)
    case atStart => exact ⟨n, Nat.le_refl _, by go_num, Lib.hid (by rw [List.drop_eq_nil_of_le (by rw [HNx.out]; omega), List.drop_eq_nil_of_le (by rw [HNy.out]; omega)]), Lib.hid (Below.refl _ _)⟩
    case round =>
      obtain ⟨k, hk, rfl, hD, hBl⟩ := hrel
      by_cases h0 : k = 0
      · subst h0
        have he : xs = ys := by simpa using hD.out
        go_wp2_with fail
        go_ret
        exact ⟨⟨0, rfl, by rw [he]; omega⟩, hBl.out⟩
      · obtain ⟨j, rfl⟩ : ∃ j, k = j + 1 := ⟨k - 1, by omega⟩
        have hjx : j < xs.length := by rw [HNx.out]; omega
        have hjy : j < ys.length := by rw [HNy.out]; omega
        obtain ⟨ba, oa, rfl, hca⟩ := HA.out.2.resolve_left (by rw [HNx.out]; omega)
        obtain ⟨bb, ob, rfl, hcb⟩ := HB.out.2.resolve_left (by rw [HNy.out]; omega)
        have hx : w.cell? ⟨ba, oa + j, none⟩ = some ((xs.map u32v).getD j undef) := hca j hjx
        have hy : w.cell? ⟨bb, ob + j, none⟩ = some ((ys.map u32v).getD j undef) := hcb j hjy
        rw [show (xs.map u32v).getD j undef = .int .u32 (xs[j] : Int) by simp [List.getD, hjx, u32v]] at hx
        rw [show (ys.map u32v).getD j undef = .int .u32 (ys[j] : Int) by simp [List.getD, hjy, u32v]] at hy
        have hx' := (hBl.out.cell (World.block_lt_of_cell? w _ hx)).trans hx
        have hy' := (hBl.out.cell (World.block_lt_of_cell? w _ hy)).trans hy
        have HLt := Lib.hid (fun e => cmp_lt HX.out.1 hjx hjy hD.out e)
        have HGt := Lib.hid (fun e => cmp_lt HY.out.1 hjy hjx hD.out.symm e)
        have HEq := Lib.hid (show xs[j] = ys[j] → xs.drop j = ys.drop j from fun e => by rw [List.drop_eq_getElem_cons hjx, List.drop_eq_getElem_cons hjy, e, hD.out])
        clear hca hcb hx hy
        obtain ⟨x, hxe⟩ : ∃ x, xs[j] = x := ⟨_, rfl⟩
        obtain ⟨y, hye⟩ : ∃ y, ys[j] = y := ⟨_, rfl⟩
        rw [hxe] at hx' HLt HGt HEq
        rw [hye] at hy' HLt HGt HEq
        clear hxe hye hjx hjy
        have hg : decide ((0 : Int) ≤ (j : Int)) = true := by simp
        obtain ⟨X1, f, hX1, hf, hF⟩ := classOf (fun z => z.cell? ⟨ba, oa + j, none⟩ = some (.int .u32 (x : Int)) ∧ z.cell? ⟨bb, ob + j, none⟩ = some (.int .u32 (y : Int))) ⟨hx', hy'⟩
        have hf1 := fun x => (hf x).1
        have hf2 := fun x => (hf x).2
        have HF := Lib.hid (hF wr.drew ⟨hx', hy'⟩)
        have HF2 := Lib.hid (hF (wr.drew).drew ⟨hx', hy'⟩)
        clear hF hf
        by_cases hxy : x = y
        · subst hxy
          have hnb : ((x : Int) != (x : Int)) = false := by simp
          go_wp2_with fail
          refine wp_region_text ⟨[], [], 9⟩ (fun w' => ∃ x : X1, w' = f x) (by kernel_rfl) (by kernel_rfl) HF.out ?_
          refine wpC_seg false (HF.out) 9 0 _ _ (by rfl) (by rfl) ?_
          simp only [List.take_succ_cons, List.take_zero, List.drop_succ_cons, List.drop_zero, Bool.false_eq_true, if_false, Nat.zero_add, Nat.reduceAdd]
          repeat (go_big_quiet_step (fail))
          refine wpQuiet_nil ?_
          refine wpC_nil ?_
          clear hf1 hf2 hX1 HF HF2
          go_wp2_with fail
          go_roundw
          case rel => exact ⟨j, by omega, by go_num, Lib.hid (HEq.out trivial), Lib.hid (belowN hBl.out 1)⟩
          case measure => simp [intOf]
        · have hnb : ((x : Int) != (y : Int)) = true := by simp; omega
          by_cases hl : x < y
          · have hlb : decide ((x : Int) < (y : Int)) = true := by simp; omega
            go_wp2_with fail
            refine wp_region_text ⟨[], [], 9⟩ (fun w' => ∃ x : X1, w' = f x) (by kernel_rfl) (by kernel_rfl) HF.out ?_
            refine wpC_seg false (HF.out) 9 0 _ _ (by rfl) (by rfl) ?_
            simp only [List.take_succ_cons, List.take_zero, List.drop_succ_cons, List.drop_zero, Bool.false_eq_true, if_false, Nat.zero_add, Nat.reduceAdd]
            repeat (go_big_quiet_step (fail))
            refine wpQuiet_nil ?_
            refine wpC_nil ?_
            go_wp2_with fail
            refine wp_region_text ⟨[], [], 9⟩ (fun w' => ∃ x : X1, w' = f x) (by kernel_rfl) (by kernel_rfl) HF2.out ?_
            refine wpC_seg false (HF2.out) 9 0 _ _ (by rfl) (by rfl) ?_
            simp only [List.take_succ_cons, List.take_zero, List.drop_succ_cons, List.drop_zero, Bool.false_eq_true, if_false, Nat.zero_add, Nat.reduceAdd]
            repeat (go_big_quiet_step (fail))
            refine wpQuiet_nil ?_
            refine wpC_nil ?_
            clear hf1 hf2 hX1 HF HF2
            go_wp2_with fail
            go_ret
            exact ⟨⟨-1, rfl, by have := HLt.out hl; omega⟩, belowN (belowN hBl.out 1) 1⟩
          · have hlb : decide ((x : Int) < (y : Int)) = false := by simp; omega
            go_wp2_with fail
            refine wp_region_text ⟨[], [], 9⟩ (fun w' => ∃ x : X1, w' = f x) (by kernel_rfl) (by kernel_rfl) HF.out ?_
            refine wpC_seg false (HF.out) 9 0 _ _ (by rfl) (by rfl) ?_
            simp only [List.take_succ_cons, List.take_zero, List.drop_succ_cons, List.drop_zero, Bool.false_eq_true, if_false, Nat.zero_add, Nat.reduceAdd]
            repeat (go_big_quiet_step (fail))
            refine wpQuiet_nil ?_
            refine wpC_nil ?_
            go_wp2_with fail
            refine wp_region_text ⟨[], [], 9⟩ (fun w' => ∃ x : X1, w' = f x) (by kernel_rfl) (by kernel_rfl) HF2.out ?_
            refine wpC_seg false (HF2.out) 9 0 _ _ (by rfl) (by rfl) ?_
            simp only [List.take_succ_cons, List.take_zero, List.drop_succ_cons, List.drop_zero, Bool.false_eq_true, if_false, Nat.zero_add, Nat.reduceAdd]
            repeat (go_big_quiet_step (fail))
            refine wpQuiet_nil ?_
            refine wpC_nil ?_
            clear hf1 hf2 hX1 HF HF2
            go_wp2_with fail
            go_ret
            exact ⟨⟨1, rfl, by have := HGt.out (by omega); omega⟩, belowN (belowN hBl.out 1) 1⟩
  · obtain ⟨n, hn⟩ : ∃ n, xs.length = n := ⟨_, rfl⟩
    obtain ⟨m, hm⟩ : ∃ m, ys.length = m := ⟨_, rfl⟩
    have HN := Lib.hid (show n < m → valW xs < valW ys from fun e => cmp_len HX.out.1 HY.out (by omega))
    have HM := Lib.hid (show m < n → valW ys < valW xs from fun e => cmp_len HY.out.1 HX.out (by omega))
    rw [hn, hm] at hne ⊢
    clear hmx hla hlb HA HB hn hm HX HY
    have hnb : ((n : Int) != (m : Int)) = true := by simp; omega
    by_cases hl : n < m
    · have hlb : decide ((n : Int) < (m : Int)) = true := by simp; omega
      go_enter Tryd.func115, Tryd.ntmps115
      go_wp2_with fail
      go_ret
      exact ⟨⟨-1, rfl, by have := HN.out hl; omega⟩, Below.refl _ _⟩
    · have hlb : decide ((n : Int) < (m : Int)) = false := by simp; omega
      go_enter Tryd.func115, Tryd.ntmps115
      go_wp2_with fail
      go_ret
      exact ⟨⟨1, rfl, by have := HM.out (by omega); omega⟩, Below.refl _ _⟩
end Go.Proofs.YtfbhddllimfdlaaDoor

/- digit, whole, IntText. -/
namespace Go.Proofs.YtfbhddllimfdlaaDoor
set_option linter.unusedVariables false
set_option linter.unusedSimpArgs false
open Go.RowKit
def isDig (c : UInt8) : Bool := decide (48 ≤ c.toNat ∧ c.toNat ≤ 57)
set_option maxHeartbeats 400000 in
set_option maxRecDepth 100000 in
theorem digit_any (c : UInt8) (w : World) :
    Calls Tryd.prog 112 #[.int .u8 (c.toNat : Int)] w fun e w' => e = .returned (.bool (isDig c)) ∧ w = w' := by
  obtain ⟨n, hn⟩ : ∃ n, c.toNat = n := ⟨_, rfl⟩
  unfold isDig
  rw [hn]
  clear hn
  by_cases h1 : 48 ≤ n
  · have g1 : decide ((48 : Int) ≤ (n : Int)) = true := by simp; omega
    by_cases h2 : n ≤ 57
    · have g2 : decide ((n : Int) ≤ 57) = true := by simp; omega
      rw [show decide (48 ≤ n ∧ n ≤ 57) = true by simp; omega]
      go_enter Tryd.func112, Tryd.ntmps112
      go_wp2_with fail
      go_ret
      first | exact ⟨rfl, rfl⟩ | trivial
    · have g2 : decide ((n : Int) ≤ 57) = false := by simp; omega
      rw [show decide (48 ≤ n ∧ n ≤ 57) = false by simp; omega]
      go_enter Tryd.func112, Tryd.ntmps112
      go_wp2_with fail
      go_ret
      first | exact ⟨rfl, rfl⟩ | trivial
  · have g1 : decide ((48 : Int) ≤ (n : Int)) = false := by simp; omega
    rw [show decide (48 ≤ n ∧ n ≤ 57) = false by simp; omega]
    go_enter Tryd.func112, Tryd.ntmps112
    go_wp2_with fail
    go_ret
    first | exact ⟨rfl, rfl⟩ | trivial
theorem digs_at : ∀ d, d < 10 → ({ data := #[48, 49, 50, 51, 52, 53, 54, 55, 56, 57] } : ByteArray).extract d (d + 1) = ⟨#[UInt8.ofNat (48 + d)]⟩
  | 0, _ => by decide
  | 1, _ => by decide
  | 2, _ => by decide
  | 3, _ => by decide
  | 4, _ => by decide
  | 5, _ => by decide
  | 6, _ => by decide
  | 7, _ => by decide
  | 8, _ => by decide
  | 9, _ => by decide
  | d + 10, h => by omega
theorem dec_len20 (u : Nat) (h : u < 10000000000000000000) : (Lib.decDigits u).length ≤ 20 := Nat.le_trans (dec_short u h) (by omega)
theorem str_len (t : ByteArray) : t.data.toList.length = t.size := Array.length_toList
set_option maxHeartbeats 1600000 in
set_option maxRecDepth 100000 in
theorem whole_doc (u : Nat) (hu : u < 10000000000000000000) (w : World) :
    Calls Tryd.prog 103 #[.int .u64 (u : Int)] w fun e w' => e = .returned (.string (strOf (Lib.decDigits u))) ∧ Below w.heap.size w w' := by
  have HU := Lib.hid (And.intro hu trivial)
  clear hu
  go_enter Tryd.func103, Tryd.ntmps103
  go_wp2_with fail
  go_loopw [0, 3] (fun a b wr => ∃ (m : Nat) (t : ByteArray), a = .int .u64 m ∧ b = .string t ∧ Hid ((m ≤ u ∧ Lib.decDigits u = Lib.decDigits m ++ t.data.toList) ∧ Below w.heap.size w wr)) (fun a _ _ => (intOf a).toNat)
  case atStart => exact ⟨u, ⟨#[]⟩, rfl, rfl, Lib.hid ⟨⟨Nat.le_refl _, by simp⟩, Below.refl _ _⟩⟩
  case round =>
    obtain ⟨m, t, rfl, rfl, hI⟩ := hrel
    have hts : t.size ≤ 20 := by
      have h1 := congrArg List.length hI.out.1.2
      rw [List.length_append, str_len] at h1
      have h2 := dec_len20 u HU.out.1
      omega
    have hm64 : m < 10000000000000000000 := Nat.lt_of_le_of_lt hI.out.1.1 HU.out.1
    obtain ⟨d, hd⟩ : ∃ d, m % 10 = d := ⟨_, rfl⟩
    obtain ⟨q, hq⟩ : ∃ q, m / 10 = q := ⟨_, rfl⟩
    have hd10 : d < 10 := by omega
    have hmod : (m : Int) % 10 = (d : Int) := by omega
    have hdiv : (m : Int) / 10 = (q : Int) := by omega
    have HD := Lib.hid (And.intro hd (And.intro hq hd10))
    clear hd hq
    obtain ⟨t1, ht1⟩ : ∃ t1, ({ data := #[48, 49, 50, 51, 52, 53, 54, 55, 56, 57] } : ByteArray).extract d (d + 1) = t1 := ⟨_, rfl⟩
    have hsl : ∀ x : World, (Instr.slice 9 (.string { data := #[48, 49, 50, 51, 52, 53, 54, 55, 56, 57] }) (some (.int .i64 (d : Int))) (some (.int .i64 ((d : Int) + 1))) none).run Tryd.prog x = .ok (.string t1) x := fun x => by
      rw [run_slice_string x 9 _ .i64 .i64 (d : Int) ((d : Int) + 1) Tryd.underlying9 (by omega) (by omega) (by show (d : Int) + 1 ≤ 10; omega), ← ht1]
      rfl
    have HT1 := Lib.hid ht1
    have ht1s : t1.size = 1 := by rw [← ht1, digs_at d hd10]; rfl
    clear ht1
    by_cases hlt : q = 0
    · subst hlt
      have hres : t1 ++ t = strOf (Lib.decDigits u) := by
        rw [← HT1.out, digs_at d hd10]
        apply ByteArray.ext
        apply Array.toList_inj.1
        rw [ByteArray.data_append, strOf_data]
        have := HD.out
        rw [hI.out.1.2, Lib.decDigits_one (by omega), show m = d by omega]
        simp
      have HRs := Lib.hid hres
      clear hres
      go_wp2_with fail
      go_ret
      exact ⟨by rw [← HRs.out]; first | rfl | trivial, hI.out.2⟩
    · have hq0 : ((q : Int) == 0) = false := by simp; omega
      obtain ⟨t2, ht2⟩ : ∃ t2, t1 ++ t = t2 := ⟨_, rfl⟩
      have HN := Lib.hid (show q ≤ u ∧ Lib.decDigits u = Lib.decDigits q ++ t2.data.toList by
        have h1 := HD.out
        refine ⟨by have := hI.out.1.1; omega, ?_⟩
        rw [← ht2, ← HT1.out, digs_at d hd10, hI.out.1.2, dec_stp (u := m) (by omega), h1.1, h1.2.1, ByteArray.data_append]
        simp)
      have HT := Lib.hid ht2
      have hqm := HD.out
      clear ht2
      go_wp2_with fail
      rw [HT.out]
      go_roundw
      case rel => exact ⟨q, t2, rfl, rfl, Lib.hid ⟨HN.out, hI.out.2⟩⟩
      case measure => simp [intOf]; omega
set_option maxHeartbeats 800000 in
set_option maxRecDepth 100000 in
theorem refIntText (n : Int) (hn : -9223372036854775808 ≤ n ∧ n ≤ 9223372036854775807) (w : World) :
    Calls Tryd.prog 88 #[.int .i64 n] w fun e w' => e = .returned (.string (intT n)) ∧ Below w.heap.size w w' := by
  obtain ⟨u, hu⟩ : ∃ u, n.natAbs = u := ⟨_, rfl⟩
  have hw := fun w' => whole_doc u (by omega) w'
  have hds : (strOf (Lib.decDigits u)).size ≤ 20 := by rw [strOf_size]; exact dec_len20 u (by omega)
  have HE := Lib.hid (show intT n = strOf (if n < 0 then 45 :: Lib.decDigits u else Lib.decDigits u) by
    unfold intT Lib.itoa
    split
    · rw [hu]
    · rw [show n.toNat = u by omega])
  obtain ⟨ds, hde⟩ : ∃ ds, strOf (Lib.decDigits u) = ds := ⟨_, rfl⟩
  rw [hde] at hw hds
  have hdl : Lib.decDigits u = ds.data.toList := by rw [← hde, strOf_data]
  rw [hdl] at HE
  have HW := Lib.hid hw
  clear hw hde hdl
  by_cases h : n < 0
  · have h1 : decide (n < 0) = true := by simp [h]
    have h2 : IntKind.u64.wrap n = n + 18446744073709551616 := by rw [IntKind.wrap_u64]; omega
    have h3 : IntKind.u64.wrap (-(n + 18446744073709551616)) = (u : Int) := by rw [IntKind.wrap_u64]; omega
    have HR := Lib.hid (show ({ data := #[45] } : ByteArray) ++ ds = intT n by
      rw [HE.out, if_pos h]
      apply ByteArray.ext
      apply Array.toList_inj.1
      rw [ByteArray.data_append, strOf_data]
      simp)
    clear hu
    go_enter Tryd.func88, Tryd.ntmps88
    go_wp2_with fail
    refine (HW.out _).mono ?_
    rintro e w' ⟨rfl, hb⟩
    have HB := Lib.hid hb
    clear hb
    go_wp2_with fail
    go_ret
    exact ⟨by rw [← HR.out]; first | rfl | trivial, HB.out⟩
  · have h1 : decide (n < 0) = false := by simp; omega
    have h2 : IntKind.u64.wrap n = (u : Int) := by rw [IntKind.wrap_u64]; omega
    have HR := Lib.hid (show ({ data := #[] } : ByteArray) ++ ds = intT n by
      rw [HE.out, if_neg h]
      apply ByteArray.ext
      apply Array.toList_inj.1
      rw [ByteArray.data_append, strOf_data]
      simp)
    clear hu
    go_enter Tryd.func88, Tryd.ntmps88
    go_wp2_with fail
    refine (HW.out _).mono ?_
    rintro e w' ⟨rfl, hb⟩
    have HB := Lib.hid hb
    clear hb
    go_wp2_with fail
    go_ret
    exact ⟨by rw [← HR.out]; first | rfl | trivial, HB.out⟩
end Go.Proofs.YtfbhddllimfdlaaDoor

/- The document's Int. -/
namespace Go.Proofs.YtfbhddllimfdlaaDoor
set_option linter.unusedVariables false
set_option linter.unusedSimpArgs false
open Go.RowKit
/-- The document's loop over the digits, from a place on. -/
def intR (s : ByteArray) : Value := match refIntL s.data.toList with
  | some n => .tuple #[.int .i64 n, .bool true]
  | none => .tuple #[.int .i64 0, .bool false]
theorem intR_eq (s : ByteArray) : intR s = intV s := by unfold intR intV; rw [refInt_intS]; cases intS s <;> rfl
theorem decN_drop {l : List UInt8} {k : Nat} (hk : k < l.length) (acc : Nat) : decN acc (l.drop k) = if 48 ≤ l[k].toNat ∧ l[k].toNat ≤ 57 then decN (10 * acc + (l[k].toNat - 48)) (l.drop (k + 1)) else none := by
  rw [List.drop_eq_getElem_cons hk]
  rfl
def outR (ng : Bool) (o : Option Nat) : Value := match o with
  | none => .tuple #[.int .i64 0, .bool false]
  | some v => if ng then (if v ≤ 9223372036854775808 then .tuple #[.int .i64 (-(v : Int)), .bool true] else .tuple #[.int .i64 0, .bool false])
    else (if v ≤ 9223372036854775807 then .tuple #[.int .i64 (v : Int), .bool true] else .tuple #[.int .i64 0, .bool false])
theorem intR_run {s : ByteArray} {ng : Bool} {at_ : Nat} (hn : negB s.data.toList = ng) (ha : at_ = if ng then 1 else 0) (h1 : s.size ≠ at_) (h2 : s.size ≤ 20) (h3 : ¬ ((s.data.toList.drop at_).head? = some 48 ∧ (ng = true ∨ 1 < s.size))) :
    outR ng (decN 0 (s.data.toList.drop at_)) = intR s := by
  have hl := str_len s
  unfold intR refIntL outR
  simp only [hn]
  have e : (if ng = true then s.data.toList.drop 1 else s.data.toList) = s.data.toList.drop at_ := by
    subst ha
    cases ng <;> simp
  rw [e]
  rw [if_neg]
  · cases decN 0 (s.data.toList.drop at_) with
    | none => rfl
    | some v =>
      simp only
      cases ng <;> simp only [Bool.false_eq_true, if_true, if_false]
      · split <;> rfl
      · split <;> rfl
  · rintro (e2 | e2 | e2)
    · have := List.drop_eq_nil_iff.1 e2
      have hne : at_ ≤ s.size := by
        subst ha
        cases ng
        · exact Nat.zero_le _
        · have : s.data.toList ≠ [] := fun e3 => by rw [e3] at hn; exact absurd hn (by decide)
          have := List.length_pos_iff.2 this
          simp; omega
      omega
    · omega
    · rw [hl] at e2; exact h3 e2
theorem isDig_eq (c : UInt8) : isDig c = decide (48 ≤ c.toNat ∧ c.toNat ≤ 57) := rfl
theorem byte_at {s : ByteArray} {k : Nat} (h : k < s.size) (h2 : k < s.data.toList.length) : s.data.toList[k] = s[k] := by rw [Array.getElem_toList]; rfl
theorem head_at {s : ByteArray} {k : Nat} (h : k < s.size) : (s.data.toList.drop k).head? = some s[k] := by
  have hl := str_len s
  rw [List.head?_drop, List.getElem?_eq_getElem (by omega), byte_at h]
theorem dig_pow {k : Nat} (h : k ≤ 20) : 10 ^ k ≤ 100000000000000000000 := by
  have := Nat.pow_le_pow_right (n := 10) (by omega) h
  have e : (10 : Nat) ^ 20 = 100000000000000000000 := by decide
  omega
theorem dropW {xs : List Nat} {j : Nat} (h : j < xs.length) : valW (xs.drop j) = xs[j] + 4294967296 * valW (xs.drop (j + 1)) := by
  rw [List.drop_eq_getElem_cons h]; rfl
theorem dropW_le (xs : List Nat) (j : Nat) : valW (xs.drop j) ≤ valW xs := by
  have e := valW_append (xs.take j) (xs.drop j)
  rw [List.take_append_drop] at e
  have h1 : 0 < 4294967296 ^ (xs.take j).length := Nat.pow_pos (by omega)
  have := Nat.le_mul_of_pos_left (valW (xs.drop j)) h1
  omega
theorem SliceIs.mono_any {w : World} {B C : Nat} {e : TypeId} {v : Value} {n : Nat} {xs : List Value} (h : SliceIs w B e v n xs) (hc : C ≤ B) : SliceIs w C e v n xs := by
  refine ⟨h.1, h.2.imp id ?_⟩
  rintro ⟨g, cap, cur, h1, h2, h3⟩
  exact ⟨g, cap, cur, h1, by omega, h3⟩
set_option maxHeartbeats 6400000 in
set_option maxRecDepth 100000 in
theorem refInt_neg (s : ByteArray) (w : World) (hs : 1 < s.size) (h20 : s.size ≤ 20) (h0 : s[0].toNat = 45) (h1 : s[1].toNat ≠ 48) :
    Calls Tryd.prog 104 #[.string s] w fun e w' => e = .returned (intR s) ∧ Below w.heap.size w w' := by
  have hE : s.toList.isEmpty = false := by
    rw [ByteArray.toList_eq]
    have := str_len s
    cases hl : s.data.toList with
    | nil => rw [hl] at this; simp only [List.length_nil] at this; omega
    | cons a b => rfl
  have hng : negB s.data.toList = true := by
    have := head_at (s := s) (k := 0) (by omega)
    rw [List.drop_zero] at this
    unfold negB
    rw [this, beq_iff_eq]
    congr 1
    exact UInt8.toNat_inj.1 h0
  have HR := Lib.hid (intR_run hng (at_ := 1) rfl (by omega) h20 (by
    rw [head_at (by omega)]
    rintro ⟨e, _⟩
    exact h1 (by rw [Option.some.inj e]; rfl)))
  have i0 : ((s[0].toNat : Int) == 45) = true := by rw [h0]; rfl
  have i1 : ((s[1].toNat : Int) == 48) = false := by rw [beq_eq_false_iff_ne]; omega
  have i2 : ((s.size : Int) == 1) = false := by rw [beq_eq_false_iff_ne]; omega
  have i3 : decide ((20 : Int) < (s.size : Int)) = false := by simp; omega
  have i4 : (1 : Int) < (s.size : Int) := by omega
  have i5 : (0 : Int) < (s.size : Int) := by omega
  clear h1 h0 hng
  go_enter Tryd.func104, Tryd.ntmps104
  go_wp2_with fail
  go_loopw [5, 6] (fun a b wr => ∃ (k acc : Nat) (xs : List Nat), k ≤ s.size ∧ 1 ≤ k ∧ a = .int .i64 k ∧ acc < 10 ^ k ∧ Hid (decN 0 (s.data.toList.drop 1) = decN acc (s.data.toList.drop k)) ∧ Hid (W32 wr w.heap.size b xs ∧ Below w.heap.size w wr) ∧ Hid (CanW xs ∧ valW xs = acc)) (fun a _ _ => s.size - (intOf a).toNat)
  case atStart => exact ⟨1, 0, [], by omega, Nat.le_refl _, by rfl, Nat.pow_pos (by omega), Lib.hid rfl, Lib.hid ⟨SliceIs.nil _ _ _, Below.refl _ _⟩, Lib.hid ⟨⟨fun _ h => (by cases h), by simp⟩, rfl⟩⟩
  case round =>
    obtain ⟨k, acc, xs, hk, hat, rfl, hacc, hD, hW, hV⟩ := hrel
    by_cases hlt : k < s.size
    · have hkl : k < s.data.toList.length := by rw [str_len]; exact hlt
      have hst := hD.out
      rw [decN_drop hkl, byte_at hlt] at hst
      have HDg := Lib.hid (fun w' => digit_any (s[k]'hlt) w')
      obtain ⟨c, hc⟩ : ∃ c, (s[k]'hlt).toNat = c := ⟨_, rfl⟩
      have hc256 : c < 256 := by rw [← hc]; exact (s[k]'hlt).toNat_lt
      rw [hc] at hst HDg
      have hisd : isDig (s[k]'hlt) = decide (48 ≤ c ∧ c ≤ 57) := by rw [isDig_eq, hc]
      rw [hisd] at HDg
      have HSt := Lib.hid hst
      clear hst hisd hkl
      by_cases hd : 48 ≤ c ∧ c ≤ 57
      · rw [decide_eq_true hd] at HDg
        have hxl : xs.length ≤ 3 := can_len hV.out.1 (by
          have := dig_pow (k := k) (by omega)
          rw [hV.out.2]; omega)
        have HT := Lib.hid (times_any hW.out.1 hV.out.1.1 (by omega) (c - 48) (by omega))
        have hsub : (((c - 48 : Nat)) : Int) = (c : Int) - 48 := by omega
        rw [hsub] at HT
        have hpw : 10 * acc + (c - 48) < 10 ^ (k + 1) := by rw [Nat.pow_succ]; omega
        have hst := HSt.out
        rw [if_pos hd] at hst
        have HSt2 := Lib.hid hst
        clear hst
        go_wp2_with fail
        refine (HDg.out _).mono ?_
        rintro e w' ⟨rfl, rfl⟩
        go_wp2_with fail
        refine HT.out.mono ?_
        rintro e w2 ⟨v', rfl, b2, ys, g1, g2, g3⟩
        have HN2 := Lib.hid (And.intro (show W32 w2 w.heap.size v' ys from SliceIs.mono_any g1 hW.out.2.size) (hW.out.2.trans (b2.mono hW.out.2.size)))
        have HG := Lib.hid (And.intro g2 (show valW ys = 10 * acc + (c - 48) by rw [g3, hV.out.2]; omega))
        clear g1 g2 g3 b2 HT
        go_wp2_with fail
        go_roundw
        case rel => exact ⟨k + 1, 10 * acc + (c - 48), ys, by omega, by omega, by go_num, hpw, HSt2, HN2, HG⟩
        case measure => simp [intOf]; omega
      · rw [decide_eq_false hd] at HDg
        have hres := HR.out
        rw [HSt.out, if_neg hd] at hres
        have HRs := Lib.hid hres
        clear hres
        go_wp2_with fail
        refine (HDg.out _).mono ?_
        rintro e w' ⟨rfl, rfl⟩
        go_wp2_with fail
        go_ret2
        exact ⟨by rw [← HRs.out]; rfl, hW.out.2⟩
    · obtain rfl : k = s.size := by omega
      have hres := HR.out
      rw [hD.out, List.drop_eq_nil_of_le (by rw [str_len]; omega)] at hres
      have HO := Lib.hid (fun w' => of_any 9223372036854775807 (by omega) w')
      have HO2 := Lib.hid (fun w' => of_any 9223372036854775808 (by omega) w')
      have HRs := Lib.hid (show outR true (some acc) = intR s from hres)
      clear hres hD
      go_wp2_with fail
      refine (HO.out _).mono ?_
      rintro e w2 ⟨v2, rfl, b2, ys, g1, g2, g3⟩
      have B2 := Lib.hid (hW.out.2.trans (b2.mono hW.out.2.size))
      have X2 := Lib.hid (hW.out.1.below b2)
      have G2 := Lib.hid (And.intro g1 (And.intro g2 g3))
      clear g1 g2 g3 b2 HO
      go_wp2_with fail
      refine (HO2.out _).mono ?_
      rintro e w3 ⟨v3, rfl, b3, zs, g1, g2, g3⟩
      have B3 := Lib.hid (B2.out.trans (b3.mono B2.out.size))
      have X3 := Lib.hid (X2.out.below b3)
      have G3 := Lib.hid (And.intro g1 (And.intro g2 g3))
      clear g1 g2 g3 b3 HO2
      have HC := Lib.hid (compare_any X3.out hV.out.1 G3.out.1 G3.out.2.1)
      go_wp2_with fail
      refine HC.out.mono ?_
      rintro e w4 ⟨⟨cc, rfl, hcc⟩, b4⟩
      have B4 := Lib.hid (B3.out.trans (b4.mono B3.out.size))
      have X4 := Lib.hid (X3.out.below b4)
      rw [G3.out.2.2, hV.out.2] at hcc
      clear b4 HC
      by_cases hbig : 9223372036854775808 < acc
      · have hc0 : decide ((0 : Int) < cc) = true := by simp; exact hcc.2 hbig
        have hr := HRs.out
        simp only [outR, Bool.false_eq_true, if_true, if_false] at hr
        rw [if_neg (by omega)] at hr
        have HRf := Lib.hid hr
        clear hr hcc
        go_wp2_with fail
        go_ret2
        exact ⟨by rw [← HRf.out]; rfl, B4.out⟩
      · have hc0 : decide ((0 : Int) < cc) = false := by simp; have := fun h => hbig (hcc.1 h); omega
        have hr := HRs.out
        simp only [outR, Bool.false_eq_true, if_true, if_false] at hr
        rw [if_pos (by omega)] at hr
        have HRf := Lib.hid hr
        have hle : acc ≤ 9223372036854775808 := by omega
        have hxl : xs.length ≤ 3 := can_len hV.out.1 (by rw [hV.out.2]; omega)
        clear hr hcc hbig
        obtain ⟨a6, c6, rfl, hA6⟩ := X4.out.arg
        have HA := Lib.hid hA6
        have h6c := hA6.1
        clear hA6
        obtain ⟨m, hm⟩ : ∃ m, xs.length = m := ⟨_, rfl⟩
        have HM := Lib.hid hm
        rw [hm] at hxl h6c ⊢
        clear hm
        go_wp2_with fail
        go_loopw [8, 9] (fun a b wr2 => ∃ (j y : Nat), j ≤ m ∧ b = .int .i64 ((j : Int) - 1) ∧ a = .int .u64 (y : Int) ∧ y ≤ acc ∧ Hid (y = valW (xs.drop j)) ∧ wr2 = w4) (fun _ b _ => (intOf b + 1).toNat)
        case atStart => exact ⟨m, 0, Nat.le_refl _, by go_num, rfl, Nat.zero_le _, Lib.hid (by rw [← HM.out, List.drop_length]; rfl), rfl⟩
        case round =>
          obtain ⟨j, y, hj, rfl, rfl, hy, hY, rfl⟩ := hrel
          by_cases h0 : j = 0
          · subst h0
            have hya : y = acc := by rw [hY.out, List.drop_zero, hV.out.2]
            subst hya
            clear hY
            have hw1 : IntKind.i64.wrap (IntKind.u64.wrap (-(y : Int))) = -(y : Int) := by
              rw [IntKind.wrap_u64, IntKind.wrap_i64]; omega
            go_wp2_with fail
            go_ret2
            exact ⟨by rw [← HRf.out]; first | rfl | trivial, B4.out⟩
          · obtain ⟨i, rfl⟩ : ∃ i, j = i + 1 := ⟨j - 1, by omega⟩
            have hil : i < xs.length := by rw [HM.out]; omega
            obtain ⟨b6, o6, rfl, hcl⟩ := HA.out.2.resolve_left (by rw [HM.out]; omega)
            have hx : wr.cell? ⟨b6, o6 + i, none⟩ = some ((xs.map u32v).getD i undef) := hcl i hil
            rw [show (xs.map u32v).getD i undef = .int .u32 (xs[i] : Int) by simp [List.getD, hil, u32v]] at hx
            have hdw := dropW hil
            have hdl := dropW_le xs i
            rw [hV.out.2, hdw, ← hY.out] at hdl
            rw [← hY.out] at hdw
            obtain ⟨x, hxe⟩ : ∃ x, xs[i] = x := ⟨_, rfl⟩
            rw [hxe] at hx hdw hdl
            have HDw := Lib.hid hdw
            have hm1 : IntKind.u64.wrap (4294967296 * (y : Int)) = 4294967296 * (y : Int) := by rw [IntKind.wrap_u64]; omega
            have hm2 : IntKind.u64.wrap (4294967296 * (y : Int) + (x : Int)) = 4294967296 * (y : Int) + (x : Int) := by rw [IntKind.wrap_u64]; omega
            clear hcl hxe hil hdw
            go_wp2_with fail
            go_roundw
            case rel => exact ⟨i, x + 4294967296 * y, by omega, by go_num, by go_num, hdl, Lib.hid HDw.out.symm, trivial⟩
            case measure => simp [intOf]
end Go.Proofs.YtfbhddllimfdlaaDoor

/- The document's Int, of a text that does not begin with '-'. -/
namespace Go.Proofs.YtfbhddllimfdlaaDoor
set_option linter.unusedVariables false
set_option linter.unusedSimpArgs false
open Go.RowKit
set_option maxHeartbeats 6400000 in
set_option maxRecDepth 100000 in
theorem refInt_pos (s : ByteArray) (w : World) (hs : 0 < s.size) (h20 : s.size ≤ 20) (h0 : s[0].toNat ≠ 45) (h1 : s[0].toNat ≠ 48 ∨ s.size = 1) :
    Calls Tryd.prog 104 #[.string s] w fun e w' => e = .returned (intR s) ∧ Below w.heap.size w w' := by
  have hE : s.toList.isEmpty = false := by
    rw [ByteArray.toList_eq]
    have := str_len s
    cases hl : s.data.toList with
    | nil => rw [hl] at this; simp only [List.length_nil] at this; omega
    | cons a b => rfl
  have hng : negB s.data.toList = false := by
    have := head_at (s := s) (k := 0) (by omega)
    rw [List.drop_zero] at this
    unfold negB
    rw [this, beq_eq_false_iff_ne]
    intro e
    exact h0 (by rw [Option.some.inj e]; rfl)
  have HR := Lib.hid (intR_run hng (at_ := 0) rfl (by omega) h20 (by
    rw [head_at (by omega)]
    rintro ⟨e, e2⟩
    have h3 : s[0].toNat = 48 := by rw [Option.some.inj e]; rfl
    rcases e2 with e2 | e2
    · cases e2
    · omega))
  have i0 : ((s[0].toNat : Int) == 45) = false := by rw [beq_eq_false_iff_ne]; omega
  have i3 : decide ((20 : Int) < (s.size : Int)) = false := by simp; omega
  have i5 : (0 : Int) < (s.size : Int) := by omega
  have i6 : ((s.size : Int) == 0) = false := by rw [beq_eq_false_iff_ne]; omega
  by_cases h48 : s[0].toNat = 48
  · have i1 : ((s[0].toNat : Int) == 48) = true := by rw [h48]; rfl
    have i4 : decide ((1 : Int) < (s.size : Int)) = false := by simp; omega
    clear h1 h0 hng h48
    go_enter Tryd.func104, Tryd.ntmps104
    go_wp2_with fail
    go_loopw [5, 6] (fun a b wr => ∃ (k acc : Nat) (xs : List Nat), k ≤ s.size ∧ 0 ≤ k ∧ a = .int .i64 k ∧ acc < 10 ^ k ∧ Hid (decN 0 (s.data.toList.drop 0) = decN acc (s.data.toList.drop k)) ∧ Hid (W32 wr w.heap.size b xs ∧ Below w.heap.size w wr) ∧ Hid (CanW xs ∧ valW xs = acc)) (fun a _ _ => s.size - (intOf a).toNat)
    case atStart => exact ⟨0, 0, [], by omega, Nat.le_refl _, by rfl, Nat.pow_pos (by omega), Lib.hid rfl, Lib.hid ⟨SliceIs.nil _ _ _, Below.refl _ _⟩, Lib.hid ⟨⟨fun _ h => (by cases h), by simp⟩, rfl⟩⟩
    case round =>
      obtain ⟨k, acc, xs, hk, hat, rfl, hacc, hD, hW, hV⟩ := hrel
      by_cases hlt : k < s.size
      · have hkl : k < s.data.toList.length := by rw [str_len]; exact hlt
        have hst := hD.out
        rw [decN_drop hkl, byte_at hlt] at hst
        have HDg := Lib.hid (fun w' => digit_any (s[k]'hlt) w')
        obtain ⟨c, hc⟩ : ∃ c, (s[k]'hlt).toNat = c := ⟨_, rfl⟩
        have hc256 : c < 256 := by rw [← hc]; exact (s[k]'hlt).toNat_lt
        rw [hc] at hst HDg
        have hisd : isDig (s[k]'hlt) = decide (48 ≤ c ∧ c ≤ 57) := by rw [isDig_eq, hc]
        rw [hisd] at HDg
        have HSt := Lib.hid hst
        clear hst hisd hkl
        by_cases hd : 48 ≤ c ∧ c ≤ 57
        · rw [decide_eq_true hd] at HDg
          have hxl : xs.length ≤ 3 := can_len hV.out.1 (by
            have := dig_pow (k := k) (by omega)
            rw [hV.out.2]; omega)
          have HT := Lib.hid (times_any hW.out.1 hV.out.1.1 (by omega) (c - 48) (by omega))
          have hsub : (((c - 48 : Nat)) : Int) = (c : Int) - 48 := by omega
          rw [hsub] at HT
          have hpw : 10 * acc + (c - 48) < 10 ^ (k + 1) := by rw [Nat.pow_succ]; omega
          have hst := HSt.out
          rw [if_pos hd] at hst
          have HSt2 := Lib.hid hst
          clear hst
          go_wp2_with fail
          refine (HDg.out _).mono ?_
          rintro e w' ⟨rfl, rfl⟩
          go_wp2_with fail
          refine HT.out.mono ?_
          rintro e w2 ⟨v', rfl, b2, ys, g1, g2, g3⟩
          have HN2 := Lib.hid (And.intro (show W32 w2 w.heap.size v' ys from SliceIs.mono_any g1 hW.out.2.size) (hW.out.2.trans (b2.mono hW.out.2.size)))
          have HG := Lib.hid (And.intro g2 (show valW ys = 10 * acc + (c - 48) by rw [g3, hV.out.2]; omega))
          clear g1 g2 g3 b2 HT
          go_wp2_with fail
          go_roundw
          case rel => exact ⟨k + 1, 10 * acc + (c - 48), ys, by omega, by omega, by go_num, hpw, HSt2, HN2, HG⟩
          case measure => simp [intOf]; omega
        · rw [decide_eq_false hd] at HDg
          have hres := HR.out
          rw [HSt.out, if_neg hd] at hres
          have HRs := Lib.hid hres
          clear hres
          go_wp2_with fail
          refine (HDg.out _).mono ?_
          rintro e w' ⟨rfl, rfl⟩
          go_wp2_with fail
          go_ret2
          exact ⟨by rw [← HRs.out]; rfl, hW.out.2⟩
      · obtain rfl : k = s.size := by omega
        have hres := HR.out
        rw [hD.out, List.drop_eq_nil_of_le (by rw [str_len]; omega)] at hres
        have HO := Lib.hid (fun w' => of_any 9223372036854775807 (by omega) w')
        have HRs := Lib.hid (show outR false (some acc) = intR s from hres)
        clear hres hD
        go_wp2_with fail
        refine (HO.out _).mono ?_
        rintro e w2 ⟨v2, rfl, b2, ys, g1, g2, g3⟩
        have B2 := Lib.hid (hW.out.2.trans (b2.mono hW.out.2.size))
        have X2 := Lib.hid (hW.out.1.below b2)
        have G2 := Lib.hid (And.intro g1 (And.intro g2 g3))
        clear g1 g2 g3 b2 HO
        have HC := Lib.hid (compare_any X2.out hV.out.1 G2.out.1 G2.out.2.1)
        go_wp2_with fail
        refine HC.out.mono ?_
        rintro e w4 ⟨⟨cc, rfl, hcc⟩, b4⟩
        have B4 := Lib.hid (B2.out.trans (b4.mono B2.out.size))
        have X4 := Lib.hid (X2.out.below b4)
        rw [G2.out.2.2, hV.out.2] at hcc
        clear b4 HC
        by_cases hbig : 9223372036854775807 < acc
        · have hc0 : decide ((0 : Int) < cc) = true := by simp; exact hcc.2 hbig
          have hr := HRs.out
          simp only [outR, Bool.false_eq_true, if_true, if_false] at hr
          rw [if_neg (by omega)] at hr
          have HRf := Lib.hid hr
          clear hr hcc
          go_wp2_with fail
          go_ret2
          exact ⟨by rw [← HRf.out]; rfl, B4.out⟩
        · have hc0 : decide ((0 : Int) < cc) = false := by simp; have := fun h => hbig (hcc.1 h); omega
          have hr := HRs.out
          simp only [outR, Bool.false_eq_true, if_true, if_false] at hr
          rw [if_pos (by omega)] at hr
          have HRf := Lib.hid hr
          have hle : acc ≤ 9223372036854775807 := by omega
          have hxl : xs.length ≤ 3 := can_len hV.out.1 (by rw [hV.out.2]; omega)
          clear hr hcc hbig
          obtain ⟨a6, c6, rfl, hA6⟩ := X4.out.arg
          have HA := Lib.hid hA6
          have h6c := hA6.1
          clear hA6
          obtain ⟨m, hm⟩ : ∃ m, xs.length = m := ⟨_, rfl⟩
          have HM := Lib.hid hm
          rw [hm] at hxl h6c ⊢
          clear hm
          go_wp2_with fail
          go_loopw [8, 9] (fun a b wr2 => ∃ (j y : Nat), j ≤ m ∧ b = .int .i64 ((j : Int) - 1) ∧ a = .int .u64 (y : Int) ∧ y ≤ acc ∧ Hid (y = valW (xs.drop j)) ∧ wr2 = w4) (fun _ b _ => (intOf b + 1).toNat)
          case atStart => exact ⟨m, 0, Nat.le_refl _, by go_num, rfl, Nat.zero_le _, Lib.hid (by rw [← HM.out, List.drop_length]; rfl), rfl⟩
          case round =>
            obtain ⟨j, y, hj, rfl, rfl, hy, hY, rfl⟩ := hrel
            by_cases h0 : j = 0
            · subst h0
              have hya : y = acc := by rw [hY.out, List.drop_zero, hV.out.2]
              subst hya
              clear hY
              have hw1 : IntKind.i64.wrap (y : Int) = (y : Int) := IntWalk.i64_in _ ⟨by omega, by omega⟩
              go_wp2_with fail
              go_ret2
              exact ⟨by rw [← HRf.out]; first | rfl | trivial, B4.out⟩
            · obtain ⟨i, rfl⟩ : ∃ i, j = i + 1 := ⟨j - 1, by omega⟩
              have hil : i < xs.length := by rw [HM.out]; omega
              obtain ⟨b6, o6, rfl, hcl⟩ := HA.out.2.resolve_left (by rw [HM.out]; omega)
              have hx : wr.cell? ⟨b6, o6 + i, none⟩ = some ((xs.map u32v).getD i undef) := hcl i hil
              rw [show (xs.map u32v).getD i undef = .int .u32 (xs[i] : Int) by simp [List.getD, hil, u32v]] at hx
              have hdw := dropW hil
              have hdl := dropW_le xs i
              rw [hV.out.2, hdw, ← hY.out] at hdl
              rw [← hY.out] at hdw
              obtain ⟨x, hxe⟩ : ∃ x, xs[i] = x := ⟨_, rfl⟩
              rw [hxe] at hx hdw hdl
              have HDw := Lib.hid hdw
              have hm1 : IntKind.u64.wrap (4294967296 * (y : Int)) = 4294967296 * (y : Int) := by rw [IntKind.wrap_u64]; omega
              have hm2 : IntKind.u64.wrap (4294967296 * (y : Int) + (x : Int)) = 4294967296 * (y : Int) + (x : Int) := by rw [IntKind.wrap_u64]; omega
              clear hcl hxe hil hdw
              go_wp2_with fail
              go_roundw
              case rel => exact ⟨i, x + 4294967296 * y, by omega, by go_num, by go_num, hdl, Lib.hid HDw.out.symm, trivial⟩
              case measure => simp [intOf]
  · have i1 : ((s[0].toNat : Int) == 48) = false := by rw [beq_eq_false_iff_ne]; omega
    clear h1 h0 hng h48
    go_enter Tryd.func104, Tryd.ntmps104
    go_wp2_with fail
    go_loopw [5, 6] (fun a b wr => ∃ (k acc : Nat) (xs : List Nat), k ≤ s.size ∧ 0 ≤ k ∧ a = .int .i64 k ∧ acc < 10 ^ k ∧ Hid (decN 0 (s.data.toList.drop 0) = decN acc (s.data.toList.drop k)) ∧ Hid (W32 wr w.heap.size b xs ∧ Below w.heap.size w wr) ∧ Hid (CanW xs ∧ valW xs = acc)) (fun a _ _ => s.size - (intOf a).toNat)
    case atStart => exact ⟨0, 0, [], by omega, Nat.le_refl _, by rfl, Nat.pow_pos (by omega), Lib.hid rfl, Lib.hid ⟨SliceIs.nil _ _ _, Below.refl _ _⟩, Lib.hid ⟨⟨fun _ h => (by cases h), by simp⟩, rfl⟩⟩
    case round =>
      obtain ⟨k, acc, xs, hk, hat, rfl, hacc, hD, hW, hV⟩ := hrel
      by_cases hlt : k < s.size
      · have hkl : k < s.data.toList.length := by rw [str_len]; exact hlt
        have hst := hD.out
        rw [decN_drop hkl, byte_at hlt] at hst
        have HDg := Lib.hid (fun w' => digit_any (s[k]'hlt) w')
        obtain ⟨c, hc⟩ : ∃ c, (s[k]'hlt).toNat = c := ⟨_, rfl⟩
        have hc256 : c < 256 := by rw [← hc]; exact (s[k]'hlt).toNat_lt
        rw [hc] at hst HDg
        have hisd : isDig (s[k]'hlt) = decide (48 ≤ c ∧ c ≤ 57) := by rw [isDig_eq, hc]
        rw [hisd] at HDg
        have HSt := Lib.hid hst
        clear hst hisd hkl
        by_cases hd : 48 ≤ c ∧ c ≤ 57
        · rw [decide_eq_true hd] at HDg
          have hxl : xs.length ≤ 3 := can_len hV.out.1 (by
            have := dig_pow (k := k) (by omega)
            rw [hV.out.2]; omega)
          have HT := Lib.hid (times_any hW.out.1 hV.out.1.1 (by omega) (c - 48) (by omega))
          have hsub : (((c - 48 : Nat)) : Int) = (c : Int) - 48 := by omega
          rw [hsub] at HT
          have hpw : 10 * acc + (c - 48) < 10 ^ (k + 1) := by rw [Nat.pow_succ]; omega
          have hst := HSt.out
          rw [if_pos hd] at hst
          have HSt2 := Lib.hid hst
          clear hst
          go_wp2_with fail
          refine (HDg.out _).mono ?_
          rintro e w' ⟨rfl, rfl⟩
          go_wp2_with fail
          refine HT.out.mono ?_
          rintro e w2 ⟨v', rfl, b2, ys, g1, g2, g3⟩
          have HN2 := Lib.hid (And.intro (show W32 w2 w.heap.size v' ys from SliceIs.mono_any g1 hW.out.2.size) (hW.out.2.trans (b2.mono hW.out.2.size)))
          have HG := Lib.hid (And.intro g2 (show valW ys = 10 * acc + (c - 48) by rw [g3, hV.out.2]; omega))
          clear g1 g2 g3 b2 HT
          go_wp2_with fail
          go_roundw
          case rel => exact ⟨k + 1, 10 * acc + (c - 48), ys, by omega, by omega, by go_num, hpw, HSt2, HN2, HG⟩
          case measure => simp [intOf]; omega
        · rw [decide_eq_false hd] at HDg
          have hres := HR.out
          rw [HSt.out, if_neg hd] at hres
          have HRs := Lib.hid hres
          clear hres
          go_wp2_with fail
          refine (HDg.out _).mono ?_
          rintro e w' ⟨rfl, rfl⟩
          go_wp2_with fail
          go_ret2
          exact ⟨by rw [← HRs.out]; rfl, hW.out.2⟩
      · obtain rfl : k = s.size := by omega
        have hres := HR.out
        rw [hD.out, List.drop_eq_nil_of_le (by rw [str_len]; omega)] at hres
        have HO := Lib.hid (fun w' => of_any 9223372036854775807 (by omega) w')
        have HRs := Lib.hid (show outR false (some acc) = intR s from hres)
        clear hres hD
        go_wp2_with fail
        refine (HO.out _).mono ?_
        rintro e w2 ⟨v2, rfl, b2, ys, g1, g2, g3⟩
        have B2 := Lib.hid (hW.out.2.trans (b2.mono hW.out.2.size))
        have X2 := Lib.hid (hW.out.1.below b2)
        have G2 := Lib.hid (And.intro g1 (And.intro g2 g3))
        clear g1 g2 g3 b2 HO
        have HC := Lib.hid (compare_any X2.out hV.out.1 G2.out.1 G2.out.2.1)
        go_wp2_with fail
        refine HC.out.mono ?_
        rintro e w4 ⟨⟨cc, rfl, hcc⟩, b4⟩
        have B4 := Lib.hid (B2.out.trans (b4.mono B2.out.size))
        have X4 := Lib.hid (X2.out.below b4)
        rw [G2.out.2.2, hV.out.2] at hcc
        clear b4 HC
        by_cases hbig : 9223372036854775807 < acc
        · have hc0 : decide ((0 : Int) < cc) = true := by simp; exact hcc.2 hbig
          have hr := HRs.out
          simp only [outR, Bool.false_eq_true, if_true, if_false] at hr
          rw [if_neg (by omega)] at hr
          have HRf := Lib.hid hr
          clear hr hcc
          go_wp2_with fail
          go_ret2
          exact ⟨by rw [← HRf.out]; rfl, B4.out⟩
        · have hc0 : decide ((0 : Int) < cc) = false := by simp; have := fun h => hbig (hcc.1 h); omega
          have hr := HRs.out
          simp only [outR, Bool.false_eq_true, if_true, if_false] at hr
          rw [if_pos (by omega)] at hr
          have HRf := Lib.hid hr
          have hle : acc ≤ 9223372036854775807 := by omega
          have hxl : xs.length ≤ 3 := can_len hV.out.1 (by rw [hV.out.2]; omega)
          clear hr hcc hbig
          obtain ⟨a6, c6, rfl, hA6⟩ := X4.out.arg
          have HA := Lib.hid hA6
          have h6c := hA6.1
          clear hA6
          obtain ⟨m, hm⟩ : ∃ m, xs.length = m := ⟨_, rfl⟩
          have HM := Lib.hid hm
          rw [hm] at hxl h6c ⊢
          clear hm
          go_wp2_with fail
          go_loopw [8, 9] (fun a b wr2 => ∃ (j y : Nat), j ≤ m ∧ b = .int .i64 ((j : Int) - 1) ∧ a = .int .u64 (y : Int) ∧ y ≤ acc ∧ Hid (y = valW (xs.drop j)) ∧ wr2 = w4) (fun _ b _ => (intOf b + 1).toNat)
          case atStart => exact ⟨m, 0, Nat.le_refl _, by go_num, rfl, Nat.zero_le _, Lib.hid (by rw [← HM.out, List.drop_length]; rfl), rfl⟩
          case round =>
            obtain ⟨j, y, hj, rfl, rfl, hy, hY, rfl⟩ := hrel
            by_cases h0 : j = 0
            · subst h0
              have hya : y = acc := by rw [hY.out, List.drop_zero, hV.out.2]
              subst hya
              clear hY
              have hw1 : IntKind.i64.wrap (y : Int) = (y : Int) := IntWalk.i64_in _ ⟨by omega, by omega⟩
              go_wp2_with fail
              go_ret2
              exact ⟨by rw [← HRf.out]; first | rfl | trivial, B4.out⟩
            · obtain ⟨i, rfl⟩ : ∃ i, j = i + 1 := ⟨j - 1, by omega⟩
              have hil : i < xs.length := by rw [HM.out]; omega
              obtain ⟨b6, o6, rfl, hcl⟩ := HA.out.2.resolve_left (by rw [HM.out]; omega)
              have hx : wr.cell? ⟨b6, o6 + i, none⟩ = some ((xs.map u32v).getD i undef) := hcl i hil
              rw [show (xs.map u32v).getD i undef = .int .u32 (xs[i] : Int) by simp [List.getD, hil, u32v]] at hx
              have hdw := dropW hil
              have hdl := dropW_le xs i
              rw [hV.out.2, hdw, ← hY.out] at hdl
              rw [← hY.out] at hdw
              obtain ⟨x, hxe⟩ : ∃ x, xs[i] = x := ⟨_, rfl⟩
              rw [hxe] at hx hdw hdl
              have HDw := Lib.hid hdw
              have hm1 : IntKind.u64.wrap (4294967296 * (y : Int)) = 4294967296 * (y : Int) := by rw [IntKind.wrap_u64]; omega
              have hm2 : IntKind.u64.wrap (4294967296 * (y : Int) + (x : Int)) = 4294967296 * (y : Int) + (x : Int) := by rw [IntKind.wrap_u64]; omega
              clear hcl hxe hil hdw
              go_wp2_with fail
              go_roundw
              case rel => exact ⟨i, x + 4294967296 * y, by omega, by go_num, by go_num, hdl, Lib.hid HDw.out.symm, trivial⟩
              case measure => simp [intOf]
end Go.Proofs.YtfbhddllimfdlaaDoor

/- The document's Int of any text; width, low, back. -/
namespace Go.Proofs.YtfbhddllimfdlaaDoor
set_option linter.unusedVariables false
set_option linter.unusedSimpArgs false
open Go.RowKit
theorem intR_none {s : ByteArray} (h : refIntL s.data.toList = none) : intR s = .tuple #[.int .i64 0, .bool false] := by unfold intR; rw [h]
theorem refIntL_bad {l : List UInt8} {ng : Bool} (hn : negB l = ng) (h : (if ng then l.drop 1 else l) = [] ∨ 20 < l.length ∨ ((if ng then l.drop 1 else l).head? = some 48 ∧ (ng = true ∨ 1 < l.length))) : refIntL l = none := by
  unfold refIntL
  simp only [hn]
  rw [if_pos h]
set_option maxHeartbeats 1600000 in
set_option maxRecDepth 100000 in
theorem refInt_any (s : ByteArray) (hs : s.size ≤ 281474976710656) (w : World) :
    Calls Tryd.prog 104 #[.string s] w fun e w' => e = .returned (intV s) ∧ Below w.heap.size w w' := by
  rw [← intR_eq]
  have hl := str_len s
  rcases Nat.eq_zero_or_pos s.size with h0 | h0
  · have hnil : s.data.toList = [] := List.eq_nil_of_length_eq_zero (by omega)
    rw [intR_none (refIntL_bad (ng := false) (by rw [hnil]; rfl) (.inl (by rw [hnil]; rfl)))]
    have hE : s.toList.isEmpty = true := by rw [ByteArray.toList_eq, hnil]; rfl
    have i5 : decide ((0 : Int) < (s.size : Int)) = false := decide_eq_false (by omega)
    have i6 : ((s.size : Int) == 0) = true := by rw [beq_iff_eq]; omega
    clear hnil hl h0
    go_enter Tryd.func104, Tryd.ntmps104
    go_wp2_with fail
    go_ret2
    first | exact ⟨rfl, Below.refl _ _⟩ | exact Below.refl _ _
  · have hE : s.toList.isEmpty = false := by
      rw [ByteArray.toList_eq]
      cases h2 : s.data.toList with
      | nil => rw [h2] at hl; simp only [List.length_nil] at hl; omega
      | cons a b => rfl
    have i5 : (0 : Int) < (s.size : Int) := by omega
    have hh := head_at (s := s) (k := 0) h0
    rw [List.drop_zero] at hh
    by_cases h45 : s[0].toNat = 45
    · have hng : negB s.data.toList = true := by
        unfold negB
        rw [hh, beq_iff_eq]
        congr 1
        exact UInt8.toNat_inj.1 h45
      have i0 : ((s[0].toNat : Int) == 45) = true := by rw [h45]; rfl
      by_cases h1 : s.size = 1
      · rw [intR_none (refIntL_bad hng (.inl (by rw [if_pos rfl]; exact List.drop_eq_nil_of_le (by omega))))]
        have i2 : ((s.size : Int) == 1) = true := by rw [beq_iff_eq]; omega
        clear hng hh hl h45 h1
        go_enter Tryd.func104, Tryd.ntmps104
        go_wp2_with fail
        go_ret2
        first | exact ⟨rfl, Below.refl _ _⟩ | exact Below.refl _ _
      · have i2 : ((s.size : Int) == 1) = false := by rw [beq_eq_false_iff_ne]; omega
        by_cases h20 : 20 < s.size
        · rw [intR_none (refIntL_bad hng (.inr (.inl (by omega))))]
          have i3 : decide ((20 : Int) < (s.size : Int)) = true := by simp; omega
          clear hng hh hl h45 h1
          go_enter Tryd.func104, Tryd.ntmps104
          go_wp2_with fail
          go_ret2
          first | exact ⟨rfl, Below.refl _ _⟩ | exact Below.refl _ _
        · by_cases h48 : s[1].toNat = 48
          · rw [intR_none (refIntL_bad hng (.inr (.inr ⟨by
              rw [if_pos rfl, head_at (by omega)]
              congr 1
              exact UInt8.toNat_inj.1 h48, .inl rfl⟩)))]
            have i1 : ((s[1].toNat : Int) == 48) = true := by rw [h48]; rfl
            have i3 : decide ((20 : Int) < (s.size : Int)) = false := by simp; omega
            have i7 : (1 : Int) < (s.size : Int) := by omega
            clear hng hh h45 h48
            go_enter Tryd.func104, Tryd.ntmps104
            go_wp2_with fail
            go_ret2
            first | exact ⟨rfl, Below.refl _ _⟩ | exact Below.refl _ _
          · exact refInt_neg s w (by omega) (by omega) h45 h48
    · have hng : negB s.data.toList = false := by
        unfold negB
        rw [hh, beq_eq_false_iff_ne]
        intro e
        exact h45 (by rw [Option.some.inj e]; rfl)
      have i0 : ((s[0].toNat : Int) == 45) = false := by rw [beq_eq_false_iff_ne]; omega
      have i6 : ((s.size : Int) == 0) = false := by rw [beq_eq_false_iff_ne]; omega
      by_cases h20 : 20 < s.size
      · rw [intR_none (refIntL_bad hng (.inr (.inl (by omega))))]
        have i3 : decide ((20 : Int) < (s.size : Int)) = true := by simp; omega
        clear hng hh hl h45
        go_enter Tryd.func104, Tryd.ntmps104
        go_wp2_with fail
        go_ret2
        first | exact ⟨rfl, Below.refl _ _⟩ | exact Below.refl _ _
      · by_cases h48 : s[0].toNat = 48 ∧ s.size ≠ 1
        · rw [intR_none (refIntL_bad hng (.inr (.inr ⟨by
            rw [if_neg (by decide), hh]
            congr 1
            exact UInt8.toNat_inj.1 h48.1, .inr (by omega)⟩)))]
          have i1 : ((s[0].toNat : Int) == 48) = true := by rw [h48.1]; rfl
          have i3 : decide ((20 : Int) < (s.size : Int)) = false := by simp; omega
          have i7 : decide ((1 : Int) < (s.size : Int)) = true := by simp; omega
          clear hng hh hl h45 h48
          go_enter Tryd.func104, Tryd.ntmps104
          go_wp2_with fail
          go_ret2
          first | exact ⟨rfl, Below.refl _ _⟩ | exact Below.refl _ _
        · exact refInt_pos s w (by omega) (by omega) h45 (by omega)
end Go.Proofs.YtfbhddllimfdlaaDoor

/- Appending texts of a slice to texts that a call has made. -/
namespace Go.Proofs.YtfbhddllimfdlaaDoor
set_option linter.unusedVariables false
set_option linter.unusedSimpArgs false
open Go.RowKit
abbrev strV (s : ByteArray) : Value := .string s
theorem run_append_none {P : Program} {w : World} {B : Nat} {e : TypeId} {v : Value} {n : Nat} {xs : List Value} {t ty : TypeId} {i : TypeInfo} (ht : P.underlying t = some (.slice e)) (hi : P.info? e = some i) (hsize : i.size = 1) (h : SliceIs w B e v n xs) (a : Option Addr) (c : Nat) :
    (Builtin.append_ #[t, t] ty #[v, .slice a 0 c]).run P w = .ok v w := by
  have hf : (Builtin.firstCells 1 0 (.slice a 0 c)).run P w = .ok #[] w := by
    cases a with
    | none => rfl
    | some A =>
      have hL := run_loadCells_list (P := P) w A [] (by simp)
      rw [List.length_nil] at hL
      simp [Builtin.firstCells, hL]
  rcases h.2 with ⟨rfl, rfl⟩ | ⟨g, cap, cur, rfl, h2, h3, h4, h5, h6, h7⟩
  · simp [Builtin.append_, run_underlying ht, sizeOf, typeInfo, hi, hsize, Builtin.lenOf, hf]
  · simp [Builtin.append_, run_underlying ht, sizeOf, typeInfo, hi, hsize, Builtin.lenOf, hf, h5, storeCells]
theorem info_str : (Tryd.prog.info? 9).map (fun i => (i.zero, i.size, i.bytes)) = some (some (.string ByteArray.empty), 1, 16) := by kernel_rfl
/-- 'append(l, m...)', l of the call's own making. -/
theorem append_texts {w : World} {B n m c : Nat} {v : Value} {xs ys : List ByteArray} {a : Option Addr} (h : SliceIs w B 9 v n (xs.map strV)) (hB : B ≤ w.heap.size) (hm : ys.length = m)
    (ha : m = 0 ∨ ∃ b o, a = some ⟨b, o, none⟩ ∧ ∀ i, i < m → w.cell? ⟨b, o + i, none⟩ = some (.string (ys.getD i ByteArray.empty))) (hs : n + m ≤ 1000000000) :
    ∃ v' w', (Builtin.append_ #[35, 35] 35 #[v, .slice a m c]).run Tryd.prog w = .ok v' w' ∧ SliceIs w' B 9 v' (n + m) ((xs ++ ys).map strV) ∧ Below B w w' := by
  obtain ⟨i0, g1, g2, g3, g4⟩ := info_parts info_str
  rcases Nat.eq_zero_or_pos m with h0 | h0
  · subst h0
    have hy : ys = [] := List.eq_nil_of_length_eq_zero hm
    subst hy
    exact ⟨v, w, run_append_none (P := Tryd.prog) Tryd.underlying35 g1 g3 h a c, by simpa using h, Below.refl _ _⟩
  · obtain ⟨b, o, rfl, hc⟩ := ha.resolve_left (by omega)
    rw [List.map_append]
    refine run_append_local (P := Tryd.prog) Tryd.underlying35 g1 g2 g3 g4 rfl h hB ⟨b, o, none⟩ m c (ys.map strV) h0 (by simp [hm]) (fun j u hu => ?_) (by simp; intro x _; rfl) (by unfold maxLen; omega) (by omega)
    rw [List.getElem?_map] at hu
    cases hb : ys[j]? with
    | none => rw [hb] at hu; cases hu
    | some s =>
      rw [hb] at hu
      obtain ⟨hj, hcj⟩ := List.getElem?_eq_some_iff.1 hb
      rw [Addr.add_lit, hc j (by omega)]
      simp only [List.getD, hb, Option.getD_some]
      simpa using hu
theorem texts_of_slice {w : World} {B n : Nat} {v : Value} {xs : List ByteArray} (h : SliceIs w B 9 v n (xs.map strV)) : ∃ a c, v = .slice a n c ∧ ArgRow w a n c (fun i => .string (xs.getD i ByteArray.empty)) := by
  obtain ⟨a, c, rfl, h1, h2⟩ := h.arg
  refine ⟨a, c, rfl, h1, h2.imp id ?_⟩
  rintro ⟨b, o, e, hc⟩
  refine ⟨b, o, e, fun i hi => ?_⟩
  have hl : xs.length = n := by simpa using h.1
  rw [hc i hi]
  simp [List.getD, show i < xs.length by omega]
end Go.Proofs.YtfbhddllimfdlaaDoor

/- The document's low, width, back. -/
namespace Go.Proofs.YtfbhddllimfdlaaDoor
set_option linter.unusedVariables false
set_option linter.unusedSimpArgs false
open Go.RowKit
theorem append_bytesAny {w : World} {B B2 : Nat} {v v2 : Value} {n m : Nat} {xs ys : List UInt8} (h : SliceIs w B 5 v n (xs.map u8v)) (hB : B ≤ w.heap.size) (h2 : SliceIs w B2 5 v2 m (ys.map u8v)) (hb : n + m ≤ 1000000000) :
    ∃ v' w', (Builtin.append_ #[68, 68] 68 #[v, v2]).run Tryd.prog w = .ok v' w' ∧ SliceIs w' B 5 v' (n + m) ((xs ++ ys).map u8v) ∧ Below B w w' := by
  rcases Nat.eq_zero_or_pos m with h0 | h0
  · subst h0
    have hy : ys = [] := by
      have := h2.1
      rw [List.length_map] at this
      exact List.eq_nil_of_length_eq_zero this
    subst hy
    obtain ⟨a, c, rfl, _⟩ := h2.arg
    obtain ⟨i0, g1, g2, g3, g4⟩ := info_parts info_u8
    exact ⟨v, w, run_append_none (P := Tryd.prog) Tryd.underlying68 g1 g3 h a c, by simpa using h, Below.refl _ _⟩
  · exact append_bytes2 h hB h2 h0 hb
set_option maxHeartbeats 800000 in
set_option maxRecDepth 100000 in
theorem low_doc {w : World} {B : Nat} {v : Value} {xs : List UInt8} (h : SliceIs w B 5 v xs.length (xs.map u8v)) (hB : B ≤ w.heap.size) (n k : Nat) (hn : n < 18446744073709551616) (hk : k ≤ 8) (hx : xs.length ≤ 900000000) :
    Calls Tryd.prog 91 #[v, .int .u64 n, .int .i64 k] w fun e w' => ∃ v', e = .returned v' ∧ SliceIs w' B 5 v' (xs ++ leN k n).length ((xs ++ leN k n).map u8v) ∧ Below B w w' := by
  have HI := Lib.hid h
  clear h
  go_enter Tryd.func91, Tryd.ntmps91
  go_wp2_with fail
  go_loopw [0, 1, 7] (fun l m i wr => ∃ j : Nat, j ≤ k ∧ i = .int .i64 j ∧ m = .int .u64 ((n / 256 ^ j : Nat) : Int) ∧ Hid (SliceIs wr B 5 l (xs ++ leN j n).length ((xs ++ leN j n).map u8v) ∧ Below B w wr)) (fun _ _ i _ => k - (intOf i).toNat)
  case atStart => exact ⟨0, Nat.zero_le _, rfl, by simp, Lib.hid ⟨by simpa [leN] using HI.out, Below.refl _ _⟩⟩
  case round =>
    obtain ⟨j, hj, rfl, rfl, hI⟩ := hrel
    by_cases hlt : j < k
    · obtain ⟨v2, w2, r2, s2, b2⟩ := append8 hI.out.1 (Nat.le_trans hB hI.out.2.size) (UInt8.ofNat (n / 256 ^ j)) (by simp; omega)
      rw [show (xs ++ leN j n).length + 1 = (xs ++ leN (j + 1) n).length by simp; omega, List.append_assoc, ← leN_snoc] at s2
      have HNw := Lib.hid (And.intro s2 (hI.out.2.trans b2))
      rw [u8v_of] at r2
      have HR2 := Lib.hid r2
      have hdiv : n / 256 ^ (j + 1) = n / 256 ^ j / 256 := by rw [Nat.pow_succ, Nat.div_div_eq_div_mul]
      have hle : n / 256 ^ j < 18446744073709551616 := Nat.lt_of_le_of_lt (Nat.div_le_self _ _) hn
      have HD := Lib.hid hdiv
      clear s2 b2 r2 hdiv hI
      generalize n / 256 ^ j = q at *
      go_wp2_with (at_builtin; refine wpList_append_run rfl rfl HR2.out ?_)
      go_roundw
      case rel => exact ⟨j + 1, by omega, by go_num, by rw [HD.out]; go_num, HNw⟩
      case measure => simp [intOf]; omega
    · have : j = k := by omega
      subst this
      go_wp2_with fail
      go_ret
      exact ⟨_, rfl, hI.out⟩
set_option maxHeartbeats 800000 in
set_option maxRecDepth 100000 in
theorem width_doc (n : Int) (w : World) :
    Calls Tryd.prog 105 #[.int .i64 n] w fun e w' => e = .returned (.int .i64 (wideI n : Int)) ∧ w = w' := by
  unfold wideI
  by_cases h1 : -128 ≤ n ∧ n ≤ 127
  · rw [if_pos h1]
    have g1 : decide (-128 ≤ n) = true := decide_eq_true h1.1
    have g2 : decide (n ≤ 127) = true := decide_eq_true h1.2
    go_enter Tryd.func105, Tryd.ntmps105
    go_wp2_with fail
    go_ret
    first | exact ⟨rfl, rfl⟩ | trivial
  · rw [if_neg h1]
    have g3 : (decide (-128 ≤ n) && decide (n ≤ 127)) = false := by simp; omega
    have g4 : decide (-128 ≤ n) = false ∨ (decide (-128 ≤ n) = true ∧ decide (n ≤ 127) = false) := by
      by_cases h : -128 ≤ n
      · exact .inr ⟨decide_eq_true h, decide_eq_false (by omega)⟩
      · exact .inl (decide_eq_false h)
    by_cases h2 : -32768 ≤ n ∧ n ≤ 32767
    · rw [if_pos h2]
      have k1 : decide (-32768 ≤ n) = true := decide_eq_true h2.1
      have k2 : decide (n ≤ 32767) = true := decide_eq_true h2.2
      clear h1 g3
      rcases g4 with g4 | ⟨g4, g5⟩ <;>
      · go_enter Tryd.func105, Tryd.ntmps105
        go_wp2_with fail
        go_ret
        first | exact ⟨rfl, rfl⟩ | trivial
    · rw [if_neg h2]
      have k4 : decide (-32768 ≤ n) = false ∨ (decide (-32768 ≤ n) = true ∧ decide (n ≤ 32767) = false) := by
        by_cases h : -32768 ≤ n
        · exact .inr ⟨decide_eq_true h, decide_eq_false (by omega)⟩
        · exact .inl (decide_eq_false h)
      by_cases h3 : -2147483648 ≤ n ∧ n ≤ 2147483647
      · rw [if_pos h3]
        have l1 : decide (-2147483648 ≤ n) = true := decide_eq_true h3.1
        have l2 : decide (n ≤ 2147483647) = true := decide_eq_true h3.2
        clear h1 g3 h2
        rcases g4 with g4 | ⟨g4, g5⟩ <;> rcases k4 with k4 | ⟨k4, k5⟩ <;>
        · go_enter Tryd.func105, Tryd.ntmps105
          go_wp2_with fail
          go_ret
          first | exact ⟨rfl, rfl⟩ | trivial
      · rw [if_neg h3]
        have l4 : decide (-2147483648 ≤ n) = false ∨ (decide (-2147483648 ≤ n) = true ∧ decide (n ≤ 2147483647) = false) := by
          by_cases h : -2147483648 ≤ n
          · exact .inr ⟨decide_eq_true h, decide_eq_false (by omega)⟩
          · exact .inl (decide_eq_false h)
        clear h1 g3 h2 h3
        rcases g4 with g4 | ⟨g4, g5⟩ <;> rcases k4 with k4 | ⟨k4, k5⟩ <;> rcases l4 with l4 | ⟨l4, l5⟩ <;>
        · go_enter Tryd.func105, Tryd.ntmps105
          go_wp2_with fail
          go_ret
          first | exact ⟨rfl, rfl⟩ | trivial
theorem backF_fuel : ∀ (f m : Nat), m < 128 ^ (f + 1) → backF (f + 1) m = backF (f + 2) m
  | 0, m, h => by
    have h2 : m < 128 := by simpa using h
    simp [backF, h2]
  | f + 1, m, h => by
    rw [backF]
    conv => rhs; rw [backF]
    by_cases h1 : m < 128
    · rw [if_pos h1, if_pos h1]
    · rw [if_neg h1, if_neg h1, backF_fuel f (m / 128) (by rw [Nat.pow_succ] at h; exact Nat.div_lt_of_lt_mul (by omega))]
theorem backL_small {n : Nat} (h : n < 128) : backL n = [UInt8.ofNat n] := by unfold backL; rw [backF, if_pos h]
theorem backL_big {n : Nat} (h : ¬ n < 128) (hn : n < 34359738368) : backL n = backL (n / 128) ++ [UInt8.ofNat (128 + n % 128)] := by
  have e : (128 : Nat) ^ 4 = 268435456 := by decide
  unfold backL
  rw [backF, if_neg h, backF_fuel 3 (n / 128) (by rw [e]; omega)]
theorem back_pos (n : Nat) : 1 ≤ (backL n).length := by
  unfold backL
  rw [backF]
  split <;> simp
set_option maxHeartbeats 1600000 in
set_option maxRecDepth 100000 in
theorem back_doc (n : Nat) (hn : n < 34359738368) : ∀ w : World, 
    Calls Tryd.prog 47 #[.int .i64 (n : Int)] w fun e w' => ∃ v', e = .returned v' ∧ SliceIs w' w.heap.size 5 v' (backL n).length ((backL n).map u8v) ∧ Below w.heap.size w w' := by
  induction n using Nat.strongRecOn with
  | _ n ih =>
    intro w
    by_cases h : n < 128
    · have g1 : decide ((128 : Int) ≤ (n : Int)) = false := decide_eq_false (by omega)
      have g0 : (n : Int) % 256 = (n : Int) := by omega
      obtain ⟨v2, w2, r2, s2, b2⟩ := append8 (xs := []) (SliceIs.nil w w.heap.size 5) (Nat.le_refl _) (UInt8.ofNat n) (by omega)
      rw [u8v_of, g0] at r2
      rw [show (0 + 1) = (backL n).length by rw [backL_small h]; rfl, List.nil_append, ← backL_small h] at s2
      have HR2 := Lib.hid r2
      have HS := Lib.hid (And.intro s2 b2)
      clear r2 s2 b2 ih
      go_enter Tryd.func47, Tryd.ntmps47
      go_wp2_with (at_builtin; refine wpList_append_run rfl rfl HR2.out ?_)
      go_ret
      exact ⟨_, rfl, HS.out⟩
    · have g1 : decide ((128 : Int) ≤ (n : Int)) = true := decide_eq_true (by omega)
      obtain ⟨q, hq⟩ : ∃ q, n / 128 = q := ⟨_, rfl⟩
      obtain ⟨r, hr⟩ : ∃ r, n % 128 = r := ⟨_, rfl⟩
      have hdv : (n : Int).tdiv 128 = (q : Int) := by rw [Int.tdiv_eq_ediv_of_nonneg (by omega)]; omega
      have hmd : (n : Int).tmod 128 = (r : Int) := by rw [Int.tmod_eq_emod_of_nonneg (by omega)]; omega
      have hdv2 : (n : Int) / 128 = (q : Int) := by omega
      have hmd2 : (n : Int) % 128 = (r : Int) := by omega
      have hr1 : r < 128 := by omega
      have HB := Lib.hid (ih q (by omega) (by omega) w)
      have he := backL_big h hn
      rw [hq, hr] at he
      have HE := Lib.hid he
      have hp := back_pos q
      have hpl := backL_length q (by omega)
      obtain ⟨nb, hnb⟩ : ∃ nb, (backL q).length = nb := ⟨_, rfl⟩
      rw [hnb] at HB hp hpl
      have HNb := Lib.hid hnb
      have g2 : decide ((0 : Int) < (nb : Int)) = true := decide_eq_true (by omega)
      have g3 : (128 + (r : Int)) % 256 = 128 + (r : Int) := by omega
      clear ih he hnb hq hr
      go_enter Tryd.func47, Tryd.ntmps47
      go_wp2_with fail
      refine HB.out.mono ?_
      rintro e w1 ⟨v1, rfl, s1, b1⟩
      obtain ⟨a, c, rfl, hA⟩ := s1.arg
      have hac := hA.1
      obtain ⟨v2, w2, r2, s2, b2⟩ := append8 s1 b1.size (UInt8.ofNat (128 + r)) (by omega)
      rw [u8v_of, show ((128 + r : Nat) : Int) % 256 = 128 + (r : Int) by omega] at r2
      have HR2 := Lib.hid r2
      have HS := Lib.hid (And.intro s2 (b1.trans b2))
      clear r2 s2 b2 s1 b1 hA HB
      go_wp2_with (at_builtin; refine wpList_append_run rfl rfl HR2.out ?_)
      go_ret
      refine ⟨_, rfl, ?_, HS.out.2⟩
      rw [HE.out, List.length_append, HNb.out]
      exact HS.out.1
end Go.Proofs.YtfbhddllimfdlaaDoor

/- The document's entry, size. -/
namespace Go.Proofs.YtfbhddllimfdlaaDoor
set_option linter.unusedVariables false
set_option linter.unusedSimpArgs false
open Go.RowKit
theorem SliceIs.lenEq {w : World} {B : Nat} {e : TypeId} {v : Value} {n m : Nat} {xs : List Value} (h : SliceIs w B e v n xs) (hm : n = m) : SliceIs w B e v m xs := hm ▸ h
theorem lit_low {w w1 : World} (hb : Below w.heap.size w w1) (x : UInt8) (v : Value) (hv : v = u8v x) (m k : Nat) (hm : m < 18446744073709551616) (hk : k ≤ 8) :
    Below w.heap.size w (w1.alloc (.cells #[v] 5)) ∧ Calls Tryd.prog 91 #[.slice (some ⟨w1.heap.size, 0, none⟩) 1 1, .int .u64 m, .int .i64 k] (w1.alloc (.cells #[v] 5)) fun e w' => ∃ v', e = .returned v' ∧ SliceIs w' w.heap.size 5 v' ([x] ++ leN k m).length (([x] ++ leN k m).map u8v) ∧ Below w.heap.size (w1.alloc (.cells #[v] 5)) w' := by
  have h1 := (Below.refl w1.heap.size w1).alloc (Nat.le_refl _) (.cells #[v] 5)
  have h2 := hb.trans (h1.mono hb.size)
  have h3 := made_bytes (w := w1) [x] #[v] (by rw [hv]; rfl) (n := 1) rfl (by omega)
  exact ⟨h2, low_doc (SliceIs.mono_any h3 hb.size) h2.size m k hm hk (by simp)⟩
set_option maxHeartbeats 3200000 in
set_option maxRecDepth 100000 in
theorem entry_doc (s : ByteArray) (hs : s.size ≤ 100000000) (w : World) :
    Calls Tryd.prog 90 #[.string s] w fun e w' => ∃ v', e = .returned v' ∧ SliceIs w' w.heap.size 5 v' (headL s).length ((headL s).map u8v) ∧ Below w.heap.size w w' := by
  have HI := Lib.hid (refInt_any s (by omega) w)
  obtain ⟨hd, hhd⟩ : ∃ hd, headL s = hd := ⟨_, rfl⟩
  rw [hhd]
  cases hn : intS s with
  | some n =>
    have hr := intS_range hn
    have hh := headL_int hn
    rw [hhd] at hh
    have hv : intV s = .tuple #[.int .i64 n, .bool true] := by unfold intV; rw [hn]
    rw [hv] at HI
    have hw8 : wideI n ≤ 8 ∧ 1 ≤ wideI n := by rcases wideI_cases n with e | e | e | e <;> omega
    have HWd := Lib.hid (fun w' => width_doc n w')
    obtain ⟨m, hm⟩ : ∃ m, (n % 18446744073709551616).toNat = m := ⟨_, rfl⟩
    rw [hm] at hh
    have hml : m < 18446744073709551616 := by omega
    have hwu : IntKind.u64.wrap n = (m : Int) := by rw [IntKind.wrap_u64]; omega
    obtain ⟨k, hk⟩ : ∃ k, wideI n = k := ⟨_, rfl⟩
    rw [hk] at hh HWd hw8
    have h240 : (240 + (k : Int)) % 256 = 240 + (k : Int) := by omega
    have HMk := Lib.hid (fun w1 (hb : Below w.heap.size w w1) => lit_low hb (UInt8.ofNat (240 + k)) (.int .u8 (240 + (k : Int))) (by rw [u8v_of, show ((240 + k : Nat) : Int) % 256 = 240 + (k : Int) by omega]) m k hml hw8.1)
    have HH := Lib.hid hh
    clear hr hhd hv hm hk hn
    go_enter Tryd.func90, Tryd.ntmps90
    go_wp2_with fail
    refine HI.out.mono ?_
    rintro e w1 ⟨rfl, b1⟩
    have B1 := Lib.hid b1
    clear b1
    go_wp2_with fail
    refine (HWd.out _).mono ?_
    rintro e w' ⟨rfl, rfl⟩
    go_wp2_with fail
    refine (HMk.out _ B1.out).2.mono ?_
    rintro e w2 ⟨v2, rfl, s2, b2⟩
    have HS := Lib.hid (And.intro s2 ((HMk.out _ B1.out).1.trans (b2.mono (Nat.le_refl _))))
    clear s2 b2
    go_wp2_with fail
    go_ret
    refine ⟨_, rfl, ?_, HS.out.2⟩
    rw [HH.out]
    exact HS.out.1
  | none =>
    have hv : intV s = .tuple #[.int .i64 0, .bool false] := by unfold intV; rw [hn]
    rw [hv] at HI
    by_cases h1 : s.size < 128
    · have hh := headL_short hn h1
      rw [hhd] at hh
      have g1 : decide ((s.size : Int) ≤ 127) = true := decide_eq_true (by omega)
      have g2 : (s.size : Int) % 256 = (s.size : Int) := by omega
      have HAp := Lib.hid (fun w1 (hb : Below w.heap.size w w1) => append8 (xs := []) (B := w.heap.size) (SliceIs.nil w1 _ 5) hb.size (UInt8.ofNat s.size) (by simp))
      have HCv := Lib.hid (fun w1 (hb : Below w.heap.size w w1) => run_bytes_string (P := Tryd.prog) w1 9 68 5 Tryd.underlying9 Tryd.underlying68 Tryd.underlying5 s (by omega))
      have HH := Lib.hid hh
      clear hhd hv hn
      go_enter Tryd.func90, Tryd.ntmps90
      go_wp2_with fail
      refine HI.out.mono ?_
      rintro e w1 ⟨rfl, b1⟩
      have B1 := Lib.hid b1
      clear b1
      obtain ⟨v2, w2, r2, s2, b2⟩ := HAp.out w1 B1.out
      rw [u8v_of, g2] at r2
      have HR2 := Lib.hid r2
      have B2 := Lib.hid (B1.out.trans b2)
      obtain ⟨cap, cur, w3, hcv, hrow, hsize, hle, hcm, htk, hch⟩ := HCv.out w2 B2.out
      have hb3 : Below w2.heap.size w2 w3 := belowChg (Below.refl _ _) hch (Nat.le_refl _) fun k hk => hk.elim
      have hs3 : SliceIs w3 w2.heap.size 5 (.slice (some ⟨w2.heap.size, 0, none⟩) s.size cap) s.size (s.data.toList.map u8v) :=
        ⟨by simp, .inr ⟨_, cap, cur, rfl, Nat.le_refl _, hrow, hsize, hle, hcm, htk⟩⟩
      obtain ⟨v4, w4, r4, s4, b4⟩ := append_bytesAny (s2.below hb3) (Nat.le_trans B2.out.size hb3.size) hs3 (by simp; omega)
      have HR4 := Lib.hid r4
      have HS := Lib.hid (And.intro s4 ((B2.out.trans (hb3.mono B2.out.size)).trans b4))
      clear r2 r4 s4 b4 s2 b2 hrow htk hch hb3 hs3 hsize hle hcm
      go_upto_region 9 with (at_builtin; refine wpList_append_run rfl rfl HR2.out ?_)
      go_wp2_with (at_builtin; refine wpList_append_run rfl rfl HR4.out ?_)
      go_ret
      refine ⟨_, rfl, ?_, HS.out.2⟩
      rw [HH.out]
      exact HS.out.1.lenEq (by simp; omega)
    · have hh := headL_long hn (by omega)
      rw [hhd] at hh
      have g1 : decide ((s.size : Int) ≤ 127) = false := decide_eq_false (by omega)
      have HMk := Lib.hid (fun w1 (hb : Below w.heap.size w w1) => lit_low hb 128 (.int .u8 128) rfl s.size 3 (by omega) (by omega))
      have HCv := Lib.hid (fun w1 (hb : Below w.heap.size w w1) => run_bytes_string (P := Tryd.prog) w1 9 68 5 Tryd.underlying9 Tryd.underlying68 Tryd.underlying5 s (by omega))
      have HH := Lib.hid hh
      clear hhd hv hn
      go_enter Tryd.func90, Tryd.ntmps90
      go_wp2_with fail
      refine HI.out.mono ?_
      rintro e w1 ⟨rfl, b1⟩
      have B1 := Lib.hid b1
      clear b1
      go_wp2_with fail
      refine (HMk.out _ B1.out).2.mono ?_
      rintro e w2 ⟨v2, rfl, s2, b2⟩
      have B2 := Lib.hid ((HMk.out _ B1.out).1.trans (b2.mono (Nat.le_refl _)))
      obtain ⟨cap, cur, w3, hcv, hrow, hsize, hle, hcm, htk, hch⟩ := HCv.out w2 B2.out
      have hb3 : Below w2.heap.size w2 w3 := belowChg (Below.refl _ _) hch (Nat.le_refl _) fun k hk => hk.elim
      have hs3 : SliceIs w3 w2.heap.size 5 (.slice (some ⟨w2.heap.size, 0, none⟩) s.size cap) s.size (s.data.toList.map u8v) :=
        ⟨by simp, .inr ⟨_, cap, cur, rfl, Nat.le_refl _, hrow, hsize, hle, hcm, htk⟩⟩
      obtain ⟨v4, w4, r4, s4, b4⟩ := append_bytesAny (s2.below hb3) (Nat.le_trans B2.out.size hb3.size) hs3 (by simp; omega)
      have HR4 := Lib.hid r4
      have HS := Lib.hid (And.intro s4 ((B2.out.trans (hb3.mono B2.out.size)).trans b4))
      clear r4 s4 b4 s2 b2 hrow htk hch hb3 hs3 hsize hle hcm
      go_wp2_with (at_builtin; refine wpList_append_run rfl rfl HR4.out ?_)
      go_ret
      refine ⟨_, rfl, ?_, HS.out.2⟩
      rw [HH.out]
      have := HS.out.1
      rw [List.append_assoc] at this
      exact this.lenEq (by simp; omega)
end Go.Proofs.YtfbhddllimfdlaaDoor

/- The document's number, signed, size. -/
namespace Go.Proofs.YtfbhddllimfdlaaDoor
set_option linter.unusedVariables false
set_option linter.unusedSimpArgs false
open Go.RowKit
theorem lowN_get (l : List UInt8) (k : Nat) (h : k < l.length) : lowN (l.drop k) = 256 * lowN (l.drop (k + 1)) + l[k].toNat := by
  have := lowN_drop l k h
  omega
set_option maxHeartbeats 800000 in
theorem number_doc (s : ByteArray) (w : World) (hs : s.size ≤ 8) : Calls Tryd.prog 45 #[.string s] w fun e w' => e = .returned (.int .u64 (lowN s.data.toList)) ∧ w = w' := by
  have hlen : s.data.toList.length = s.size := by simp
  have H0 := Lib.hid hlen
  clear hlen
  go_enter Tryd.func45, Tryd.ntmps45
  go_wp2_with fail
  go_loop [3, 4] (fun n i => ∃ k : Nat, k ≤ s.size ∧ i = .int .i64 ((k : Int) - 1) ∧ n = .int .u64 (lowN (s.data.toList.drop k) : Nat)) (fun _ i => (intOf i + 1).toNat)
  case atStart => exact ⟨s.size, Nat.le_refl _, rfl, by rw [← H0.out, List.drop_length]; rfl⟩
  case round =>
    obtain ⟨k, hk, rfl, rfl⟩ := hrel
    cases k with
    | zero =>
      go_wp2_with fail
      go_ret
      exact ⟨rfl, rfl⟩
    | succ k =>
      have hl := lowN_get s.data.toList k (by rw [H0.out]; omega)
      have hlt := lowN_lt64 (s.data.toList.drop k) (by simp; omega)
      have hkd : k < s.data.size := by have : s.data.size = s.size := rfl; omega
      have hg : s.data[k].toNat = (s.data.toList[k]'(by rw [H0.out]; omega)).toNat := by simp
      have hb := s.data[k].toNat_lt
      rw [← hg] at hl
      have hfin : Value.int IntKind.u64 (IntKind.u64.wrap (256 * ((lowN (s.data.toList.drop (k + 1)) : Nat) : Int) + IntKind.u64.wrap (s.data[k].toNat : Int))) = .int .u64 (lowN (s.data.toList.drop k) : Nat) := by
        rw [hl, IntWalk.u64_in (s.data[k].toNat : Int) ⟨by omega, by omega⟩, IntWalk.u64_in _ ⟨by omega, by omega⟩]
        simp
      have hbd : 256 * lowN (s.data.toList.drop (k + 1)) < 18446744073709551616 := by omega
      have HFin := Lib.hid hfin
      clear hl hg hb hfin
      go_wp2_with fail
      go_round
      case rel => exact ⟨k, by omega, rfl, HFin.out⟩
      case measure => simp [intOf]
theorem top_byte (l : List UInt8) (K : Nat) (hK : K = 1 ∨ K = 2 ∨ K = 4) (hl : l.length = K) : (128 ≤ (l[K - 1]'(by omega)).toNat ↔ 128 * 256 ^ (K - 1) ≤ lowN l) ∧ lowN l < 256 ^ K := by
  have hlt := lowN_lt l
  rw [hl] at hlt
  refine ⟨?_, hlt⟩
  rcases hK with rfl | rfl | rfl
  · match l, hl with
    | [a], _ =>
      have := a.toNat_lt
      simp [lowN]
  · match l, hl with
    | [a, b], _ =>
      have := a.toNat_lt
      have := b.toNat_lt
      simp [lowN]; omega
  · match l, hl with
    | [a, b, c, d], _ =>
      have := a.toNat_lt
      have := b.toNat_lt
      have := c.toNat_lt
      have := d.toNat_lt
      simp [lowN]; omega
set_option maxHeartbeats 800000 in
set_option maxRecDepth 100000 in
theorem signed_doc (s : ByteArray) (w : World) (hs : s.size = 1 ∨ s.size = 2 ∨ s.size = 4 ∨ s.size = 8) : Calls Tryd.prog 89 #[.string s] w fun e w' => e = .returned (.int .i64 (signN s.size (lowN s.data.toList))) ∧ w = w' := by
  have HN := Lib.hid (number_doc s w (by omega))
  have hlen : s.data.toList.length = s.size := by simp
  have hlt := lowN_lt64 s.data.toList (by omega)
  by_cases h8 : s.size = 8
  · have HV := Lib.hid (show signN s.size (lowN s.data.toList) = wrap64 (lowN s.data.toList) by rw [h8]; unfold signN wrap64; simp only [Nat.reduceMul, Nat.reduceSub, Nat.reducePow]; split <;> omega)
    have e8 : decide ((s.size : Int) < 8) = false := by simp; omega
    clear hs hlen
    generalize lowN s.data.toList = n at *
    go_enter Tryd.func89, Tryd.ntmps89
    go_wp2_with fail
    refine HN.out.mono ?_
    rintro e w' ⟨rfl, rfl⟩
    go_wp2_with fail
    go_ret
    exact ⟨ret1 (by rw [HV.out]; rfl), rfl⟩
  · have hK : s.size = 1 ∨ s.size = 2 ∨ s.size = 4 := by omega
    have htop := top_byte s.data.toList s.size hK hlen
    have e8 : decide ((s.size : Int) < 8) = true := by simp; omega
    have hkd : s.size - 1 < s.data.size := by have : s.data.size = s.size := rfl; omega
    have hg : (s.data.toList[s.size - 1]'(by omega)).toNat = s.data[s.size - 1].toNat := by simp
    rw [hg] at htop
    go_enter Tryd.func89, Tryd.ntmps89
    go_wp2_with fail
    refine HN.out.mono ?_
    rintro e w' ⟨rfl, rfl⟩
    go_wp2_with fail
    rotate_left
    · rename_i hc
      have hs' : (s.data[s.size - 1].toNat : Int) < 128 := hc
      have hn : ¬ 128 * 256 ^ (s.size - 1) ≤ lowN s.data.toList := fun h => by have := htop.1.2 h; omega
      have hv : wrap64 (lowN s.data.toList : Int) = signN s.size (lowN s.data.toList) := by
        have hw : wrap64 (lowN s.data.toList : Int) = (lowN s.data.toList : Int) := by
          have := htop.2
          have hP : 256 ^ s.size ≤ 4294967296 := (by rcases hK with h | h | h <;> rw [h] <;> decide)
          unfold wrap64; omega
        rw [hw]
        rcases hK with h | h | h <;> rw [h] at hn ⊢ <;> simp only [signN, Nat.reduceMul, Nat.reduceSub, Nat.reducePow] at hn ⊢ <;> rw [if_pos (by omega)]
      go_ret
      exact ⟨ret1 (by rw [← hv]; rfl), rfl⟩
    have hs' : (128 : Int) ≤ (s.data[s.size - 1].toNat : Int) := by assumption
    have hn : 128 * 256 ^ (s.size - 1) ≤ lowN s.data.toList := htop.1.1 (by omega)
    have hv : (-(((256 ^ s.size : Nat) : Int) - (lowN s.data.toList : Nat))) = signN s.size (lowN s.data.toList) := by
      have h2 := htop.2
      rcases hK with h | h | h <;> rw [h] at hn h2 ⊢ <;> simp only [signN, Nat.reduceMul, Nat.reduceSub, Nat.reducePow] at hn h2 ⊢ <;> rw [if_neg (by omega)] <;> omega
    have hP : 256 ^ s.size ≤ 4294967296 := by rcases hK with h | h | h <;> rw [h] <;> decide
    have hPn := htop.2
    have HV := Lib.hid hv
    have hmon : ∀ k, k < s.size → 256 ^ (k + 1) ≤ 256 ^ s.size := fun k hk => Nat.pow_le_pow_right (by decide) hk
    have HM := Lib.hid hmon
    clear hv hn hs' htop hg hmon hlen hs
    obtain ⟨n, hnn⟩ : ∃ n, n = lowN s.data.toList := ⟨_, rfl⟩
    rw [← hnn] at hPn hlt HV HN ⊢
    have HNN := Lib.hid hnn
    clear hnn
    go_loop [4, 5] (fun f i => ∃ k : Nat, k ≤ s.size ∧ i = .int .i64 k ∧ f = .int .u64 ((256 ^ k : Nat) : Int)) (fun _ i => s.size - (intOf i).toNat)
    case atStart => exact ⟨0, Nat.zero_le _, rfl, rfl⟩
    case round =>
      obtain ⟨k, hk, rfl, rfl⟩ := hrel
      by_cases hlt2 : k < s.size
      · have hm := HM.out k hlt2
        rw [Nat.pow_succ, Nat.mul_comm] at hm
        have HP := Lib.hid (show 256 ^ (k + 1) = 256 * 256 ^ k by rw [Nat.pow_succ, Nat.mul_comm])
        generalize 256 ^ k = q at *
        generalize 256 ^ s.size = P at *
        go_wp2_with fail
        go_round
        case rel => exact ⟨k + 1, by omega, by go_num, by rw [HP.out]; go_num⟩
        case measure => simp [intOf]; omega
      · have : k = s.size := by omega
        subst this
        generalize 256 ^ s.size = P at *
        go_wp2_with fail
        go_ret
        exact ⟨ret1 (by rw [← HNN.out, ← HV.out]; rfl), rfl⟩
set_option maxHeartbeats 800000 in
set_option maxRecDepth 100000 in
theorem size_doc (s : ByteArray) (hs : s.size ≤ 100000000) (w : World) :
    Calls Tryd.prog 92 #[.string s] w fun e w' => e = .returned (.int .i64 ((entL s).length : Int)) ∧ Below w.heap.size w w' := by
  have HE := Lib.hid (entry_doc s hs w)
  have hhl := headL_length s
  have hel : (entL s).length = (headL s).length + (backL (headL s).length).length := by unfold entL; rw [List.length_append]
  rw [hel]
  obtain ⟨n, hn⟩ : ∃ n, (headL s).length = n := ⟨_, rfl⟩
  rw [hn] at HE hhl ⊢
  have hbk := backL_length n (by omega)
  have HB := Lib.hid (fun w' => back_doc n (by omega) w')
  obtain ⟨b, hb⟩ : ∃ b, (backL n).length = b := ⟨_, rfl⟩
  rw [hb] at HB hbk ⊢
  clear hel hn hb
  go_enter Tryd.func92, Tryd.ntmps92
  go_wp2_with fail
  refine HE.out.mono ?_
  rintro e w1 ⟨v1, rfl, s1, b1⟩
  obtain ⟨a, c, rfl, _⟩ := s1.arg
  have B1 := Lib.hid b1
  clear s1 b1
  go_wp2_with fail
  refine (HB.out _).mono ?_
  rintro e w2 ⟨v2, rfl, s2, b2⟩
  obtain ⟨a2, c2, rfl, _⟩ := s2.arg
  have B2 := Lib.hid (B1.out.trans (b2.mono B1.out.size))
  clear s2 b2
  go_wp2_with fail
  go_ret
  exact ⟨ret1 (by push_cast; rfl), B2.out⟩
end Go.Proofs.YtfbhddllimfdlaaDoor

/- pack.Parse, of a piece. -/
-- SOFT
namespace Go.Proofs.YtfbhddllimfdlaaDoor
set_option linter.unusedVariables false
set_option linter.unusedSimpArgs false
open Go.RowKit
theorem str_cut (s : ByteArray) (a n : Nat) : (s.extract a (a + n)).toList = (s.data.toList.drop a).take n := by
  rw [ByteArray.toList_eq, ByteArray.data_extract, Array.toList_extract, List.extract_eq_take_drop, Nat.add_sub_cancel_left]
theorem packL_last (L : List ByteArray) : ∃ h : sizeP L - 1 < (packL L).length, (packL L)[sizeP L - 1] = 255 := by
  have h1 := packL_length L
  have h2 := sizeP_pos L
  refine ⟨by omega, ?_⟩
  have h3 : (packL L)[sizeP L - 1]? = some 255 := by
    have := packL_drop L L.length
    rw [List.drop_length, bodyL_nil, List.nil_append, offL_all (Nat.le_refl _)] at this
    have e := congrArg (fun l => l[0]?) this
    simpa using e
  exact (List.getElem?_eq_some_iff.1 h3).2
theorem packL_mid {L : List ByteArray} {i : Nat} (h : i < L.length) : ((packL L).drop (offL L i)).take (sizeP L - 1 - offL L i) = entL L[i] ++ bodyL (L.drop (i + 1)) ∧ ((packL L).drop (offL L i)).take (entL L[i]).length = entL L[i] := by
  have h1 := offL_all (L := L) (Nat.le_refl _)
  have h2 : (bodyL (L.drop i)).length = sizeP L - 1 - offL L i := by
    have := drop_length L i
    rw [packL_drop, List.length_append, List.length_singleton] at this
    omega
  rw [packL_drop]
  refine ⟨?_, ?_⟩
  · rw [← h2, List.take_left, List.drop_eq_getElem_cons h, bodyL_cons]
  · rw [List.drop_eq_getElem_cons h, bodyL_cons, List.append_assoc, List.take_left]
set_option maxHeartbeats 3200000 in
set_option maxRecDepth 100000 in
theorem parse_pack {w : World} (hl : Laid w) (L : List ByteArray) (ok : OKL L) (s : ByteArray) (hs : s = strOf (packL L)) :
    Calls Tryd.prog 11 #[.string s] w fun e w' => (∃ p F, e = .returned (.tuple #[.pointer (some ⟨p, 0, none⟩), .int .i64 0]) ∧ PackF w' p F L ∧ ∀ k, F k → w.heap.size ≤ k) ∧ Below w.heap.size w w' := by
  have hz9 := sizeP_pos L
  have okz := ok.size
  have okm := ok.many
  have hsd : s.data.toList = packL L := by rw [hs, strOf_data]
  have hss : s.size = sizeP L := by rw [hs, strOf_size, packL_length]
  obtain ⟨cap, cur, w1, hcv, hrow, hsize, hle, hcm, htk, hch⟩ := run_bytes_string (P := Tryd.prog) w 9 68 5 Tryd.underlying9 Tryd.underlying68 Tryd.underlying5 s (by omega)
  rw [hsd, hss] at htk
  rw [hss] at hcv hle
  have hgs := hrow.lt
  obtain ⟨w2, hw2⟩ : ∃ w2, w2 = w1.alloc (.cells #[.slice (some ⟨w.heap.size, 0, none⟩) (sizeP L) cap] 70) := ⟨_, rfl⟩
  have hch2 : Chg (fun _ => False) w w2 := by rw [hw2]; exact hch.trans (Chg.alloc _ _ _) fun _ h _ => h
  have hB2 : Below w.heap.size w w2 := belowChg (Below.refl _ _) hch2 (Nat.le_refl _) fun k hk => hk.elim
  have hR : PackRow w2 w1.heap.size w.heap.size cap cur L :=
    { head := by rw [hw2]; exact heap_new _ _, row := by rw [hw2]; exact hrow.old _, size := hsize, le := hle, capm := hcm, bytes := htk, ok := ok }
  have HW2 := Lib.hid hw2
  have c0 := hR.cell0
  have HLen := Lib.hid (plen_row hR)
  have HLow := Lib.hid (low_any w.heap.size 0 4 cap (leN 4 (sizeP L)) w2 (by simp) (by omega) (hR.cells 0 (by rw [leN_length, List.drop_zero]; exact packL_head L)))
  rw [lowN_leN, Nat.mod_eq_of_lt (by omega)] at HLow
  obtain ⟨hl1, hl2⟩ := packL_last L
  have hlast : w2.cell? ⟨w.heap.size, sizeP L - 1, none⟩ = some (.int .u8 255) := by rw [hR.cell hl1, hl2]; rfl
  have HR := Lib.hid (And.intro hR hB2)
  have HSd := Lib.hid hsd
  have HFin := Lib.hid (show ∀ w', Below w2.heap.size w2 w' → (∃ p F, (.returned (.tuple #[.pointer (some ⟨w1.heap.size, 0, none⟩), .int .i64 0]) : Ending) = .returned (.tuple #[.pointer (some ⟨p, 0, none⟩), .int .i64 0]) ∧ PackF w' p F L ∧ ∀ k, F k → w.heap.size ≤ k) ∧ Below w.heap.size w w' from fun w' hb =>
    ⟨⟨w1.heap.size, fun k => k = w1.heap.size ∨ k = w.heap.size, rfl, ⟨_, cap, cur, hR.chg (Chg.of_below (fun _ => False) hb) id id, fun k => Iff.rfl⟩, fun k hk => by rcases hk with rfl | rfl <;> omega⟩, hB2.trans (hb.mono hB2.size)⟩)
  have HLd := Lib.hid (show ∀ w', Below w2.heap.size w2 w' → Laid w' from fun w' hb => hl.below (hB2.trans (hb.mono hB2.size)))
  unfold maxLen at hcm
  have hpl := heap_lt hR.head
  have hpne : ¬ sizeP L ≤ 8 := by omega
  have HOff := Lib.hid (show ∀ k, offL L k + 1 ≤ sizeP L ∧ 8 ≤ offL L k from fun k => ⟨(offL_lt L k).2, (offL_lt L k).1⟩)
  have HEnd := Lib.hid (offL_all (L := L) (Nat.le_refl _))
  have HEach := Lib.hid ok.each
  have HOk := Lib.hid ok
  have HSS := Lib.hid hss
  rw [← hss] at hcv hle c0 HLow hlast HOff HEnd okz hz9 HW2
  clear hss hpne
  have hd1 : decide ((s.size : Int) ≤ 8) = false := by simp; omega
  have hd2 : decide ((1073741824 : Int) < (s.size : Int)) = false := by simp; omega
  have hd3 : decide ((2147483647 : Int) < (s.size : Int)) = false := by simp; omega
  clear hw2 hch hch2 hB2 hR hrow htk hsd hs ok hl hgs hl1 hl2 hsize
  obtain ⟨many, hmn⟩ : ∃ many, L.length = many := ⟨_, rfl⟩
  rw [hmn] at okm HLen
  have HMn := Lib.hid hmn
  have hd4 : decide ((1048576 : Int) < (many : Int)) = false := by simp; omega
  clear hmn
  go_enter Tryd.func11, Tryd.ntmps11
  go_wp2_with fail
  rw [← HW2.out]
  refine HLen.out.mono ?_
  rintro e w' ⟨rfl, rfl⟩
  go_wp2_with fail
  refine HLow.out.mono ?_
  rintro e w' ⟨rfl, rfl⟩
  have hlast' : w2.cell? ⟨w.heap.size, s.size - 1, none⟩ = some (.int .u8 255) := hlast
  have hsu : IntKind.u64.wrap (s.size : Int) = (s.size : Int) := IntWalk.u64_in _ ⟨by omega, by omega⟩
  go_wp2_with fail
  generalize hpe : w1.heap.size = p at *
  have HPe := Lib.hid hpe
  clear hpe HLow HLen hlast hlast' hcv hsu
  go_loopw [6, 57] (fun x i wr => ∃ k : Nat, k ≤ many ∧ i = .int .i64 k ∧ x = .int .i64 (offL L k) ∧ Hid (Below w2.heap.size w2 wr)) (fun _ i _ => many - (intOf i).toNat)
  case atStart => exact ⟨0, Nat.zero_le _, rfl, by rw [offL_zero]; rfl, Lib.hid (Below.refl _ _)⟩
  case round =>
    obtain ⟨k, hk, rfl, rfl, hB⟩ := hrel
    by_cases hlt : k < many
    · have hkl : k < L.length := by rw [HMn.out]; exact hlt
      have hof := HOff.out k
      have hof1 := (HOff.out (k + 1)).1
      have hsuc := offL_succ hkl
      have hsm := HOk.out.small hkl
      have hel := entL_length L[k] (by omega)
      obtain ⟨hmid1, hmid2⟩ := packL_mid hkl
      have hsz := HSS.out
      have hent : (entL L[k]).length = (headL L[k]).length + (backL (headL L[k]).length).length := by unfold entL; rw [List.length_append]
      have hhd := headL_length L[k]
      have hbk := backL_length (headL L[k]).length (by omega)
      have hRw := HR.out.1.chg (Chg.of_below (fun _ => False) hB.out) id id
      have hrv : readV (((packL L).drop (offL L k)).take (s.size - 1 - offL L k)) = .tuple #[.string L[k], .int .i64 (headL L[k]).length, .bool true] := by
        unfold readV
        rw [hsz, hmid1, entL, List.append_assoc, read_head _ (by omega)]
      have HRd := Lib.hid (read_any w.heap.size (offL L k) (s.size - 1 - offL L k) (cap - offL L k) (((packL L).drop (offL L k)).take (s.size - 1 - offL L k)) (HLd.out _ hB.out) (by rw [List.length_take, drop_length]; omega) (.inl (by omega)) (by omega) (hRw.cells (offL L k) (by rw [List.length_take, drop_length, Nat.min_eq_left (by omega)])))
      rw [hrv] at HRd
      have HEn := Lib.hid (fun w' (hb : Below w2.heap.size w2 w') => entry_any L[k] (by omega) (HLd.out w' hb))
      have hstr : ((strOf (entL L[k])).toList == (s.extract (offL L k) (offL L k + (entL L[k]).length)).toList) = true := by
        rw [str_cut, HSd.out, hmid2, ByteArray.toList_eq, strOf_data]
        exact beq_self_eq_true _
      have c0w := (hB.out.cell (p := ⟨p, 0, none⟩) hpl).trans c0
      have HOf := Lib.hid (And.intro hsuc hent)
      obtain ⟨x, hx⟩ : ∃ x, L[k] = x := ⟨_, rfl⟩
      rw [hx] at HRd HEn hstr hel hhd hbk hsm HOf
      obtain ⟨nh, hnh⟩ : ∃ nh, (headL x).length = nh := ⟨_, rfl⟩
      rw [hnh] at HRd hhd hbk HOf
      have HBk := Lib.hid (fun w' => back_any nh (by omega) w')
      obtain ⟨nb, hnb⟩ : ∃ nb, (backL nh).length = nb := ⟨_, rfl⟩
      rw [hnb] at HBk hbk HOf
      obtain ⟨ne, hne⟩ : ∃ ne, (entL x).length = ne := ⟨_, rfl⟩
      rw [hne] at HEn hstr hel HOf
      have HNe := Lib.hid hne
      have hdn : ((ne : Int) != (nh : Int) + (nb : Int)) = false := by
        have := HOf.out.2
        rw [bne_eq_false_iff_eq]; omega
      obtain ⟨at_, hat⟩ : ∃ at_, offL L k = at_ := ⟨_, rfl⟩
      rw [hat] at HRd hstr hof HOf ⊢
      rw [HOf.out.1] at hof1
      have hde : decide ((s.size : Int) - 1 - (at_ : Int) < (ne : Int)) = false := by simp; omega
      have hdx : decide ((65536 : Int) < (x.size : Int)) = false := by simp; omega
      have hcc : ¬ cap = at_ := by omega
      have hle1 : at_ ≤ s.size - 1 := by omega
      clear hmid1 hmid2 hent hrv hRw hsuc hx hnh hnb hne hat hsz
      go_wp2_with fail
      refine HRd.out.mono ?_
      rintro e w3 ⟨rfl, b3⟩
      have B3 := Lib.hid (hB.out.trans (b3.mono hB.out.size))
      clear b3 HRd
      go_wp2_with fail
      refine (HEn.out _ B3.out).mono ?_
      rintro e w4 ⟨v4, rfl, s4, b4⟩
      have B4 := Lib.hid (B3.out.trans (b4.mono B3.out.size))
      obtain ⟨ae, ce, rfl, hae⟩ := s4.arg
      have hce := hae.1
      have HCv := Lib.hid (show ∀ w', Below w4.heap.size w4 w' → (convert 68 9 (.slice ae ne ce)).run Tryd.prog w' = .ok (.string (strOf (entL x))) w' from fun w' hb => by
        obtain ⟨b, o, rfl, hc⟩ := (s4.below hb).arg_bytes (by omega)
        exact cells_conv HNe.out hc)
      obtain ⟨E, hE⟩ : ∃ E, strOf (entL x) = E := ⟨_, rfl⟩
      rw [hE] at HCv hstr
      clear s4 b4 hae HEn hE
      obtain ⟨X1, f, hX1, hf, hF⟩ := classOf (fun y => (convert 68 9 (.slice ae ne ce)).run Tryd.prog y = .ok (.string E) y) (HCv.out w4 (Below.refl _ _))
      have HF := Lib.hid hF
      have HF1 := Lib.hid (hF (w4.drewN 1) (HCv.out _ (belowN (Below.refl _ _) 1)))
      clear hF
      go_wp2_with fail
      refine wp_region_text ⟨[4], [], 30⟩ (fun w' => ∃ y : X1, w' = f y) (by kernel_rfl) (by kernel_rfl) HF1.out ?_
      refine wpC_seg false (HF1.out) 4 0 _ _ (by rfl) (by rfl) ?_
      simp only [List.take_succ_cons, List.take_zero, List.drop_succ_cons, List.drop_zero, Bool.false_eq_true, if_false, Nat.zero_add, Nat.reduceAdd]
      repeat (go_big_quiet_step (fail))
      refine wpQuiet_nil ?_
      refine wpC_loud (by rfl) (by rfl) fun K hK => ?_
      go_wp2_with fail
      refine (HBk.out _).mono ?_
      rintro e w5 ⟨v5, rfl, s5, b5⟩
      obtain ⟨ab, cb, rfl, hab⟩ := s5.arg
      have hcb := hab.1
      have b45 : Below w4.heap.size w4 w5 := (belowN (Below.refl w4.heap.size w4) 1).trans b5
      have B5 := Lib.hid (B4.out.trans (b45.mono B4.out.size))
      have HF2 := Lib.hid (HF.out w5 (HCv.out w5 b45))
      refine hK _ _ (fun _ => HF2.out) ?_
      clear hK s5 b5 b45 hab
      refine wpC_seg false (HF2.out) 25 5 _ _ (by rfl) (by rfl) ?_
      simp only [List.take_succ_cons, List.take_zero, List.drop_succ_cons, List.drop_zero, Bool.false_eq_true, if_false, Nat.zero_add, Nat.reduceAdd]
      repeat (go_big_quiet_step (fail))
      refine wpQuiet_nil ?_
      refine wpC_nil ?_
      clear hf hX1 HF HF1 HF2 f
      go_wp2_with fail
      go_roundw
      case rel => exact ⟨k + 1, by omega, by go_num, by rw [HOf.out.1]; go_num, B5⟩
      case measure => simp [intOf]; omega
    · obtain rfl : k = many := by omega
      have hend := HEnd.out
      rw [HMn.out] at hend
      have hne : ((offL L k : Int) != (s.size : Int) - 1) = false := by rw [bne_eq_false_iff_eq]; omega
      generalize offL L k = at_ at *
      go_wp2_with fail
      go_ret2
      have := HFin.out _ hB.out
      exact this
end Go.Proofs.YtfbhddllimfdlaaDoor

/- The document's text. -/
namespace Go.Proofs.YtfbhddllimfdlaaDoor
set_option linter.unusedVariables false
set_option linter.unusedSimpArgs false
open Go.RowKit
def noV : Value := .tuple #[.string ByteArray.empty, .int .i64 0, .bool false]
theorem readV_none {l : List UInt8} (h : readL l = none) : readV l = noV := by unfold readV; rw [h]; rfl
theorem readV_some {l : List UInt8} {x : ByteArray} {k : Nat} (h : readL l = some (x, k)) : readV l = .tuple #[.string x, .int .i64 k, .bool true] := by unfold readV; rw [h]
theorem cut_data (s : ByteArray) (a n : Nat) : (s.extract a (a + n)).data.toList = (s.data.toList.drop a).take n := by
  have := str_cut s a n
  rwa [ByteArray.toList_eq] at this
theorem cut_size {s : ByteArray} {a n : Nat} (h : a + n ≤ s.size) : (s.extract a (a + n)).size = n := by
  have := congrArg List.length (cut_data s a n)
  rw [str_len, List.length_take, List.length_drop, str_len] at this
  omega
theorem cut_str (s : ByteArray) (a n : Nat) : s.extract a (a + n) = strOf ((s.data.toList.drop a).take n) := by
  rw [← cut_data, strOf_toList]
theorem first_at {s : ByteArray} (h : 0 < s.size) : s.data.toList = s[0] :: s.data.toList.drop 1 := by
  have hl := str_len s
  have := List.drop_eq_getElem_cons (show 0 < s.data.toList.length by omega)
  rw [List.drop_zero, byte_at h] at this
  exact this
theorem readL_int {s : ByteArray} (h : 0 < s.size) {w : Nat} (hc : s[0].toNat = 240 + w) (hw : w = 1 ∨ w = 2 ∨ w = 4 ∨ w = 8) :
    readL s.data.toList = if 1 + w ≤ s.size then some (intT (signN w (lowN ((s.data.toList.drop 1).take w))), 1 + w) else none := by
  have hl : (s.data.toList.drop 1).length = s.size - 1 := by rw [List.length_drop, str_len]
  rw [first_at h]
  unfold readL
  simp only [hc, List.drop_succ_cons, List.drop_zero]
  rw [if_neg (by omega), if_neg (by omega), Nat.add_sub_cancel_left]
  by_cases h1 : 1 + w ≤ s.size
  · rw [if_pos h1, if_pos ⟨by omega, by omega⟩]
  · rw [if_neg h1, if_neg (fun e => by omega)]
theorem readL_short {s : ByteArray} (h : 0 < s.size) (hc : s[0].toNat < 128) :
    readL s.data.toList = if s.size - 1 < s[0].toNat then none else some (strOf ((s.data.toList.drop 1).take s[0].toNat), 1 + s[0].toNat) := by
  have hl : (s.data.toList.drop 1).length = s.size - 1 := by rw [List.length_drop, str_len]
  conv => lhs; rw [first_at h]
  unfold readL
  simp only
  rw [if_pos hc, hl]
theorem readL_long {s : ByteArray} (h : 4 ≤ s.size) (hc : s[0].toNat = 128) :
    readL s.data.toList = if s.size - 4 < lowN ((s.data.toList.drop 1).take 3) then none else some (strOf ((s.data.toList.drop 4).take (lowN ((s.data.toList.drop 1).take 3))), 4 + lowN ((s.data.toList.drop 1).take 3)) := by
  have hl : (s.data.toList.drop 1).length = s.size - 1 := by rw [List.length_drop, str_len]
  conv => lhs; rw [first_at (by omega)]
  unfold readL
  simp only [hc]
  rw [if_neg (by omega), if_pos ⟨trivial, by omega⟩, hl, List.drop_drop, show s.size - 1 - 3 = s.size - 4 by omega]
theorem readL_other {s : ByteArray} (h : 0 < s.size) (h1 : 128 ≤ s[0].toNat) (h2 : s[0].toNat = 128 → s.size < 4) (h3 : s[0].toNat ≠ 241 ∧ s[0].toNat ≠ 242 ∧ s[0].toNat ≠ 244 ∧ s[0].toNat ≠ 248) :
    readL s.data.toList = none := by
  have hl : (s.data.toList.drop 1).length = s.size - 1 := by rw [List.length_drop, str_len]
  conv => lhs; rw [first_at h]
  unfold readL
  simp only
  rw [if_neg (by omega), if_neg (fun e => by have := h2 e.1; omega), if_neg (fun e => by omega)]
set_option maxHeartbeats 6400000 in
set_option maxRecDepth 100000 in
theorem text_doc (s : ByteArray) (hs : s.size ≤ 1073741824) (w : World) :
    Calls Tryd.prog 46 #[.string s] w fun e w' => e = .returned (readV s.data.toList) ∧ Below w.heap.size w w' := by
  rcases Nat.eq_zero_or_pos s.size with h0 | h0
  · have hnil : s.data.toList = [] := List.eq_nil_of_length_eq_zero (by rw [str_len]; exact h0)
    rw [readV_none (by rw [hnil]; rfl)]
    have hE : s.toList.isEmpty = true := by rw [ByteArray.toList_eq, hnil]; rfl
    have i6 : ((s.size : Int) == 0) = true := by rw [beq_iff_eq]; omega
    clear hnil h0
    go_enter Tryd.func46, Tryd.ntmps46
    go_wp2_with fail
    go_ret3
    first | exact ⟨rfl, Below.refl _ _⟩ | exact Below.refl _ _
  · have hE : s.toList.isEmpty = false := by
      have hl := str_len s
      rw [ByteArray.toList_eq]
      cases h2 : s.data.toList with
      | nil => rw [h2] at hl; simp only [List.length_nil] at hl; omega
      | cons a b => rfl
    have i6 : ((s.size : Int) == 0) = false := by rw [beq_eq_false_iff_ne]; omega
    have i7 : (0 : Int) < (s.size : Int) := by omega
    by_cases hc1 : s[0].toNat = 241
    · have hc : s[0].toNat = 240 + 1 := hc1
      have e241 : ((s[0].toNat : Int) == 241) = true := by rw [hc]; rfl
      have e242 : ((s[0].toNat : Int) == 242) = false := by rw [hc]; rfl
      have e244 : ((s[0].toNat : Int) == 244) = false := by rw [hc]; rfl
      have e248 : ((s[0].toNat : Int) == 248) = false := by rw [hc]; rfl
      have hrd := readL_int h0 hc (by omega)
      by_cases h1 : 1 + 1 ≤ s.size
      · rw [if_pos h1] at hrd
        rw [readV_some hrd]
        have hcs := cut_size (s := s) (a := 1) (n := 1) h1
        have hcd := cut_data s 1 1
        have g1 : decide ((s.size : Int) < 1 + 1) = false := decide_eq_false (by omega)
        have g2 : decide ((s.size : Int) < 2) = false := decide_eq_false (by omega)
        have g3 : (2 : Int) ≤ (s.size : Int) := by omega
        have HSg := Lib.hid (fun w' => signed_doc (s.extract 1 (1 + 1)) w' (by omega))
        rw [hcs, hcd] at HSg
        have hrg := signN_range (w := 1) (n := lowN ((s.data.toList.drop 1).take 1)) (by omega) (by
          have := lowN_lt ((s.data.toList.drop 1).take 1)
          rw [List.length_take, List.length_drop, str_len, Nat.min_eq_left (by omega)] at this
          exact this)
        obtain ⟨v, hv⟩ : ∃ v, signN 1 (lowN ((s.data.toList.drop 1).take 1)) = v := ⟨_, rfl⟩
        rw [hv] at HSg hrg ⊢
        have HIt := Lib.hid (fun w' => refIntText v hrg w')
        have hsx : s.extract 1 (1 + 1) = s.extract 1 2 := rfl
        rw [hsx] at HSg
        clear hrd hcs hcd hv hsx
        go_enter Tryd.func46, Tryd.ntmps46
        go_wp2_with fail
        refine (HSg.out _).mono ?_
        rintro e w' ⟨rfl, rfl⟩
        go_wp2_with fail
        refine (HIt.out _).mono ?_
        rintro e w' ⟨rfl, hb⟩
        have HB := Lib.hid hb
        clear hb
        go_wp2_with fail
        go_ret3
        exact ⟨rfl, HB.out⟩
      · rw [if_neg h1] at hrd
        rw [readV_none hrd]
        have g1 : decide ((s.size : Int) < 1 + 1) = true := decide_eq_true (by omega)
        have g2 : decide ((s.size : Int) < 2) = true := decide_eq_true (by omega)
        clear hrd
        go_enter Tryd.func46, Tryd.ntmps46
        go_wp2_with fail
        go_ret3
        first | exact ⟨rfl, Below.refl _ _⟩ | exact Below.refl _ _
    by_cases hc2 : s[0].toNat = 242
    · have hc : s[0].toNat = 240 + 2 := hc2
      have e241 : ((s[0].toNat : Int) == 241) = false := by rw [hc]; rfl
      have e242 : ((s[0].toNat : Int) == 242) = true := by rw [hc]; rfl
      have e244 : ((s[0].toNat : Int) == 244) = false := by rw [hc]; rfl
      have e248 : ((s[0].toNat : Int) == 248) = false := by rw [hc]; rfl
      have hrd := readL_int h0 hc (by omega)
      by_cases h1 : 1 + 2 ≤ s.size
      · rw [if_pos h1] at hrd
        rw [readV_some hrd]
        have hcs := cut_size (s := s) (a := 1) (n := 2) h1
        have hcd := cut_data s 1 2
        have g1 : decide ((s.size : Int) < 1 + 2) = false := decide_eq_false (by omega)
        have g2 : decide ((s.size : Int) < 3) = false := decide_eq_false (by omega)
        have g3 : (3 : Int) ≤ (s.size : Int) := by omega
        have HSg := Lib.hid (fun w' => signed_doc (s.extract 1 (1 + 2)) w' (by omega))
        rw [hcs, hcd] at HSg
        have hrg := signN_range (w := 2) (n := lowN ((s.data.toList.drop 1).take 2)) (by omega) (by
          have := lowN_lt ((s.data.toList.drop 1).take 2)
          rw [List.length_take, List.length_drop, str_len, Nat.min_eq_left (by omega)] at this
          exact this)
        obtain ⟨v, hv⟩ : ∃ v, signN 2 (lowN ((s.data.toList.drop 1).take 2)) = v := ⟨_, rfl⟩
        rw [hv] at HSg hrg ⊢
        have HIt := Lib.hid (fun w' => refIntText v hrg w')
        have hsx : s.extract 1 (1 + 2) = s.extract 1 3 := rfl
        rw [hsx] at HSg
        clear hrd hcs hcd hv hsx
        go_enter Tryd.func46, Tryd.ntmps46
        go_wp2_with fail
        refine (HSg.out _).mono ?_
        rintro e w' ⟨rfl, rfl⟩
        go_wp2_with fail
        refine (HIt.out _).mono ?_
        rintro e w' ⟨rfl, hb⟩
        have HB := Lib.hid hb
        clear hb
        go_wp2_with fail
        go_ret3
        exact ⟨rfl, HB.out⟩
      · rw [if_neg h1] at hrd
        rw [readV_none hrd]
        have g1 : decide ((s.size : Int) < 1 + 2) = true := decide_eq_true (by omega)
        have g2 : decide ((s.size : Int) < 3) = true := decide_eq_true (by omega)
        clear hrd
        go_enter Tryd.func46, Tryd.ntmps46
        go_wp2_with fail
        go_ret3
        first | exact ⟨rfl, Below.refl _ _⟩ | exact Below.refl _ _
    by_cases hc4 : s[0].toNat = 244
    · have hc : s[0].toNat = 240 + 4 := hc4
      have e241 : ((s[0].toNat : Int) == 241) = false := by rw [hc]; rfl
      have e242 : ((s[0].toNat : Int) == 242) = false := by rw [hc]; rfl
      have e244 : ((s[0].toNat : Int) == 244) = true := by rw [hc]; rfl
      have e248 : ((s[0].toNat : Int) == 248) = false := by rw [hc]; rfl
      have hrd := readL_int h0 hc (by omega)
      by_cases h1 : 1 + 4 ≤ s.size
      · rw [if_pos h1] at hrd
        rw [readV_some hrd]
        have hcs := cut_size (s := s) (a := 1) (n := 4) h1
        have hcd := cut_data s 1 4
        have g1 : decide ((s.size : Int) < 1 + 4) = false := decide_eq_false (by omega)
        have g2 : decide ((s.size : Int) < 5) = false := decide_eq_false (by omega)
        have g3 : (5 : Int) ≤ (s.size : Int) := by omega
        have HSg := Lib.hid (fun w' => signed_doc (s.extract 1 (1 + 4)) w' (by omega))
        rw [hcs, hcd] at HSg
        have hrg := signN_range (w := 4) (n := lowN ((s.data.toList.drop 1).take 4)) (by omega) (by
          have := lowN_lt ((s.data.toList.drop 1).take 4)
          rw [List.length_take, List.length_drop, str_len, Nat.min_eq_left (by omega)] at this
          exact this)
        obtain ⟨v, hv⟩ : ∃ v, signN 4 (lowN ((s.data.toList.drop 1).take 4)) = v := ⟨_, rfl⟩
        rw [hv] at HSg hrg ⊢
        have HIt := Lib.hid (fun w' => refIntText v hrg w')
        have hsx : s.extract 1 (1 + 4) = s.extract 1 5 := rfl
        rw [hsx] at HSg
        clear hrd hcs hcd hv hsx
        go_enter Tryd.func46, Tryd.ntmps46
        go_wp2_with fail
        refine (HSg.out _).mono ?_
        rintro e w' ⟨rfl, rfl⟩
        go_wp2_with fail
        refine (HIt.out _).mono ?_
        rintro e w' ⟨rfl, hb⟩
        have HB := Lib.hid hb
        clear hb
        go_wp2_with fail
        go_ret3
        exact ⟨rfl, HB.out⟩
      · rw [if_neg h1] at hrd
        rw [readV_none hrd]
        have g1 : decide ((s.size : Int) < 1 + 4) = true := decide_eq_true (by omega)
        have g2 : decide ((s.size : Int) < 5) = true := decide_eq_true (by omega)
        clear hrd
        go_enter Tryd.func46, Tryd.ntmps46
        go_wp2_with fail
        go_ret3
        first | exact ⟨rfl, Below.refl _ _⟩ | exact Below.refl _ _
    by_cases hc8 : s[0].toNat = 248
    · have hc : s[0].toNat = 240 + 8 := hc8
      have e241 : ((s[0].toNat : Int) == 241) = false := by rw [hc]; rfl
      have e242 : ((s[0].toNat : Int) == 242) = false := by rw [hc]; rfl
      have e244 : ((s[0].toNat : Int) == 244) = false := by rw [hc]; rfl
      have e248 : ((s[0].toNat : Int) == 248) = true := by rw [hc]; rfl
      have hrd := readL_int h0 hc (by omega)
      by_cases h1 : 1 + 8 ≤ s.size
      · rw [if_pos h1] at hrd
        rw [readV_some hrd]
        have hcs := cut_size (s := s) (a := 1) (n := 8) h1
        have hcd := cut_data s 1 8
        have g1 : decide ((s.size : Int) < 1 + 8) = false := decide_eq_false (by omega)
        have g2 : decide ((s.size : Int) < 9) = false := decide_eq_false (by omega)
        have g3 : (9 : Int) ≤ (s.size : Int) := by omega
        have HSg := Lib.hid (fun w' => signed_doc (s.extract 1 (1 + 8)) w' (by omega))
        rw [hcs, hcd] at HSg
        have hrg := signN_range (w := 8) (n := lowN ((s.data.toList.drop 1).take 8)) (by omega) (by
          have := lowN_lt ((s.data.toList.drop 1).take 8)
          rw [List.length_take, List.length_drop, str_len, Nat.min_eq_left (by omega)] at this
          exact this)
        obtain ⟨v, hv⟩ : ∃ v, signN 8 (lowN ((s.data.toList.drop 1).take 8)) = v := ⟨_, rfl⟩
        rw [hv] at HSg hrg ⊢
        have HIt := Lib.hid (fun w' => refIntText v hrg w')
        have hsx : s.extract 1 (1 + 8) = s.extract 1 9 := rfl
        rw [hsx] at HSg
        clear hrd hcs hcd hv hsx
        go_enter Tryd.func46, Tryd.ntmps46
        go_wp2_with fail
        refine (HSg.out _).mono ?_
        rintro e w' ⟨rfl, rfl⟩
        go_wp2_with fail
        refine (HIt.out _).mono ?_
        rintro e w' ⟨rfl, hb⟩
        have HB := Lib.hid hb
        clear hb
        go_wp2_with fail
        go_ret3
        exact ⟨rfl, HB.out⟩
      · rw [if_neg h1] at hrd
        rw [readV_none hrd]
        have g1 : decide ((s.size : Int) < 1 + 8) = true := decide_eq_true (by omega)
        have g2 : decide ((s.size : Int) < 9) = true := decide_eq_true (by omega)
        clear hrd
        go_enter Tryd.func46, Tryd.ntmps46
        go_wp2_with fail
        go_ret3
        first | exact ⟨rfl, Below.refl _ _⟩ | exact Below.refl _ _
    have e241 : ((s[0].toNat : Int) == 241) = false := by rw [beq_eq_false_iff_ne]; omega
    have e242 : ((s[0].toNat : Int) == 242) = false := by rw [beq_eq_false_iff_ne]; omega
    have e244 : ((s[0].toNat : Int) == 244) = false := by rw [beq_eq_false_iff_ne]; omega
    have e248 : ((s[0].toNat : Int) == 248) = false := by rw [beq_eq_false_iff_ne]; omega
    by_cases hsm : s[0].toNat < 128
    · have k1 : decide ((s[0].toNat : Int) ≤ 127) = true := decide_eq_true (by omega)
      have hrd := readL_short h0 hsm
      have hcst := cut_str s 1 s[0].toNat
      obtain ⟨c, hc⟩ : ∃ c, s[0].toNat = c := ⟨_, rfl⟩
      rw [hc] at hrd hcst
      by_cases h1 : s.size - 1 < c
      · rw [if_pos h1] at hrd
        rw [readV_none hrd]
        have g1 : decide ((s.size : Int) - 1 < (c : Int)) = true := decide_eq_true (by omega)
        rw [← hc] at g1
        clear hrd hcst hc h1
        go_enter Tryd.func46, Tryd.ntmps46
        go_wp2_with fail
        go_ret3
        first | exact ⟨rfl, Below.refl _ _⟩ | exact Below.refl _ _
      · rw [if_neg h1] at hrd
        rw [readV_some hrd, ← hcst]
        have g1 : decide ((s.size : Int) - 1 < (c : Int)) = false := decide_eq_false (by omega)
        rw [← hc] at g1 ⊢
        have hle : 1 + s[0].toNat ≤ s.size := by omega
        clear hrd hcst hc h1
        go_enter Tryd.func46, Tryd.ntmps46
        go_wp2_with fail
        go_ret3
        refine ⟨?_, Below.refl _ _⟩
        first | rfl | simp
    · have k1 : decide ((s[0].toNat : Int) ≤ 127) = false := decide_eq_false (by omega)
      by_cases h128 : s[0].toNat = 128
      · have k2 : ((s[0].toNat : Int) == 128) = true := by rw [h128]; rfl
        by_cases h4 : 4 ≤ s.size
        · have k3 : decide ((4 : Int) ≤ (s.size : Int)) = true := decide_eq_true (by omega)
          have k4 : (4 : Int) ≤ (s.size : Int) := by omega
          have hrd := readL_long h4 h128
          have hcs := cut_size (s := s) (a := 1) (n := 3) (by omega)
          have hcd := cut_data s 1 3
          have HNm := Lib.hid (fun w' => number_doc (s.extract 1 (1 + 3)) w' (by omega))
          rw [hcd] at HNm
          have hsx : s.extract 1 (1 + 3) = s.extract 1 4 := rfl
          rw [hsx] at HNm
          have hnb : lowN ((s.data.toList.drop 1).take 3) < 16777216 := by
            have := lowN_lt ((s.data.toList.drop 1).take 3)
            rw [List.length_take, List.length_drop, str_len, Nat.min_eq_left (by omega)] at this
            exact this
          obtain ⟨n, hn⟩ : ∃ n, lowN ((s.data.toList.drop 1).take 3) = n := ⟨_, rfl⟩
          rw [hn] at hrd HNm hnb
          have hwn : wrap64 (n : Int) = (n : Int) := by unfold wrap64; omega
          have hcst := cut_str s 4 n
          by_cases h1 : s.size - 4 < n
          · rw [if_pos h1] at hrd
            rw [readV_none hrd]
            have g1 : decide ((s.size : Int) - 4 < (n : Int)) = true := decide_eq_true (by omega)
            clear hrd hcst hcs hcd hsx hn
            go_enter Tryd.func46, Tryd.ntmps46
            go_wp2_with fail
            refine (HNm.out _).mono ?_
            rintro e w' ⟨rfl, rfl⟩
            go_wp2_with fail
            go_ret3
            first | exact ⟨rfl, Below.refl _ _⟩ | exact Below.refl _ _
          · rw [if_neg h1] at hrd
            rw [readV_some hrd, ← hcst]
            have g1 : decide ((s.size : Int) - 4 < (n : Int)) = false := decide_eq_false (by omega)
            have hle : 4 + n ≤ s.size := by omega
            clear hrd hcst hcs hcd hsx hn
            go_enter Tryd.func46, Tryd.ntmps46
            go_wp2_with fail
            refine (HNm.out _).mono ?_
            rintro e w' ⟨rfl, rfl⟩
            go_wp2_with fail
            go_ret3
            refine ⟨?_, Below.refl _ _⟩
            first | rfl | simp
        · have k3 : decide ((4 : Int) ≤ (s.size : Int)) = false := decide_eq_false (by omega)
          rw [readV_none (readL_other h0 (by omega) (fun _ => by omega) ⟨hc1, hc2, hc4, hc8⟩)]
          go_enter Tryd.func46, Tryd.ntmps46
          go_wp2_with fail
          go_ret3
          first | exact ⟨rfl, Below.refl _ _⟩ | exact Below.refl _ _
      · have k2 : ((s[0].toNat : Int) == 128) = false := by rw [beq_eq_false_iff_ne]; omega
        rw [readV_none (readL_other h0 (by omega) (fun e => absurd e h128) ⟨hc1, hc2, hc4, hc8⟩)]
        go_enter Tryd.func46, Tryd.ntmps46
        go_wp2_with fail
        go_ret3
        first | exact ⟨rfl, Below.refl _ _⟩ | exact Below.refl _ _
end Go.Proofs.YtfbhddllimfdlaaDoor

/- The document's pack in memory: New, Len, Size, Bytes. -/
namespace Go.Proofs.YtfbhddllimfdlaaDoor
set_option linter.unusedVariables false
set_option linter.unusedSimpArgs false
open Go.RowKit
/-- The document's texts, in the blocks G. -/
def RefP (w : World) (r : Nat) (G : Nat → Prop) (L : List ByteArray) : Prop :=
  ∃ v, w.heap[r]? = some (.cells #[v] 81 (0, 0)) ∧ SliceIs w (r + 1) 9 v L.length (L.map strV) ∧ ∀ k, G k ↔ k = r ∨ vblock v = some k
theorem RefP.lt {w : World} {r : Nat} {G : Nat → Prop} {L : List ByteArray} (h : RefP w r G L) {k : Nat} (hk : G k) : k < w.heap.size := by
  obtain ⟨v, h1, h2, h3⟩ := h
  rcases (h3 k).1 hk with rfl | h4
  · exact heap_lt h1
  · exact (h2.block_lt h4).2
theorem RefP.chg {w : World} {r : Nat} {G : Nat → Prop} {L : List ByteArray} (h : RefP w r G L) {S : Nat → Prop} {w' : World} (hc : Chg S w w') (hd : ∀ k, G k → ¬ S k) : RefP w' r G L := by
  obtain ⟨v, h1, h2, h3⟩ := h
  exact ⟨v, hc.keep h1 (hd r ((h3 r).2 (.inl rfl))), h2.chg hc fun k hk => hd k ((h3 k).2 (.inr hk)), h3⟩
theorem RefP.below {w : World} {r : Nat} {G : Nat → Prop} {L : List ByteArray} (h : RefP w r G L) {w' : World} (hb : Below w.heap.size w w') : RefP w' r G L := by
  obtain ⟨v, h1, h2, h3⟩ := h
  exact ⟨v, (hb.block _ (heap_lt h1)).trans h1, h2.below hb, h3⟩
set_option maxRecDepth 100000 in
theorem refpNew (w : World) : Calls Tryd.prog 44 #[] w fun e w' => ∃ r, e = .returned (.pointer (some ⟨r, 0, none⟩)) ∧ r = w.heap.size ∧ w'.heap[r]? = some (.cells #[.slice none 0 0] 81 (0, 0)) ∧ Below w.heap.size w w' := by
  go_enter Tryd.func44, Tryd.ntmps44
  go_wp2_with fail
  go_ret
  exact ⟨_, rfl, rfl, heap_new _ _, (Below.refl _ _).alloc (Nat.le_refl _) _⟩
section
variable {w : World} {r : Nat} {G : Nat → Prop} {L : List ByteArray}
set_option maxRecDepth 100000 in
theorem refpLen (h : RefP w r G L) : Calls Tryd.prog 49 #[.pointer (some ⟨r, 0, none⟩)] w fun e w' => e = .returned (.int .i64 (L.length : Int)) ∧ w = w' := by
  obtain ⟨v, h1, h2, _⟩ := h
  obtain ⟨a, cap, rfl, h3⟩ := h2.arg
  have c0 := cell_in h1 (i := 0) rfl
  have := h3.1
  clear h1 h2 h3
  go_enter Tryd.func49, Tryd.ntmps49
  go_wp2_with fail
  go_ret
  exact ⟨rfl, rfl⟩
set_option maxHeartbeats 1600000 in
set_option maxRecDepth 100000 in
theorem refpSize (h : RefP w r G L) (he : ∀ x ∈ L, x.size ≤ 65536) (hz : sizeP L ≤ 2000000000) (hn : L.length ≤ 2000000000) : Calls Tryd.prog 51 #[.pointer (some ⟨r, 0, none⟩)] w fun e w' => e = .returned (.int .i64 (sizeP L : Int)) ∧ Below w.heap.size w w' := by
  obtain ⟨v, h1, h2, _⟩ := h
  obtain ⟨a, cap, rfl, h3⟩ := texts_of_slice h2
  have c0 := cell_in h1 (i := 0) rfl
  have hrl := heap_lt h1
  have hlc := h3.1
  have HA := Lib.hid h3
  have HE := Lib.hid he
  have HOff := Lib.hid (show ∀ k, offL L k + 1 ≤ sizeP L ∧ 8 ≤ offL L k from fun k => ⟨(offL_lt L k).2, (offL_lt L k).1⟩)
  have HEnd := Lib.hid (offL_all (L := L) (Nat.le_refl _))
  obtain ⟨n, hnn⟩ : ∃ n, L.length = n := ⟨_, rfl⟩
  have HN := Lib.hid hnn
  rw [hnn] at hlc hn c0 HEnd
  obtain ⟨z, hzz⟩ : ∃ z, sizeP L = z := ⟨_, rfl⟩
  rw [hzz] at HOff HEnd hz ⊢
  clear h1 h2 h3 he hnn hzz
  go_enter Tryd.func51, Tryd.ntmps51
  go_wp2_with fail
  go_loopw [3, 4] (fun x i wr => ∃ k : Nat, k ≤ n ∧ i = .int .i64 k ∧ x = .int .i64 ((offL L k : Int) + 1) ∧ Hid (Below w.heap.size w wr)) (fun _ i _ => n - (intOf i).toNat)
  case atStart => exact ⟨0, Nat.zero_le _, rfl, by rw [offL_zero]; rfl, Lib.hid (Below.refl _ _)⟩
  case round =>
    obtain ⟨k, hk, rfl, rfl, hB⟩ := hrel
    have c0w := (hB.out.cell (p := ⟨r, 0, none⟩) hrl).trans c0
    by_cases hlt : k < n
    · have hkl : k < L.length := by rw [HN.out]; exact hlt
      obtain ⟨b, o, rfl, hc⟩ := HA.out.2.resolve_left (by rw [HN.out]; omega)
      have hck : w.cell? ⟨b, o + k, none⟩ = some (.string (L.getD k ByteArray.empty)) := hc k (by rw [HN.out]; exact hlt)
      have hg : L.getD k ByteArray.empty = L[k] := by simp [List.getD, hkl]
      rw [hg] at hck
      have hckw := (hB.out.cell (World.block_lt_of_cell? w _ hck)).trans hck
      have hsm := HE.out _ (List.getElem_mem hkl)
      have hsz := size_doc L[k] (by omega) 
      have hsuc := offL_succ hkl
      have hof := HOff.out (k + 1)
      have hof0 := HOff.out k
      rw [hsuc] at hof
      obtain ⟨x, hx⟩ : ∃ x, L[k] = x := ⟨_, rfl⟩
      rw [hx] at hckw hsz hsuc hof
      have HSz := Lib.hid hsz
      obtain ⟨e, he⟩ : ∃ e, (entL x).length = e := ⟨_, rfl⟩
      rw [he] at HSz hsuc hof
      obtain ⟨q, hq⟩ : ∃ q, offL L k = q := ⟨_, rfl⟩
      rw [hq] at hsuc hof hof0 ⊢
      have HSuc := Lib.hid hsuc
      clear hc hck hg hx he hq hsuc hsz
      go_wp2_with fail
      refine (HSz.out _).mono ?_
      rintro en w2 ⟨rfl, b2⟩
      have B2 := Lib.hid (hB.out.trans (b2.mono hB.out.size))
      clear b2
      go_wp2_with fail
      go_roundw
      case rel => exact ⟨k + 1, by omega, by go_num, by rw [HSuc.out]; go_num, B2⟩
      case measure => simp [intOf]; omega
    · obtain rfl : k = n := by omega
      have hend := HEnd.out
      have hof := HOff.out k
      have hqz : ((offL L k : Nat) : Int) + 1 = (z : Int) := by omega
      rw [hqz]
      clear hqz hend hof
      go_wp2_with fail
      go_ret
      exact ⟨rfl, hB.out⟩
end
end Go.Proofs.YtfbhddllimfdlaaDoor

/- The document's pack: Bytes. -/
namespace Go.Proofs.YtfbhddllimfdlaaDoor
set_option linter.unusedVariables false
set_option linter.unusedSimpArgs false
open Go.RowKit
theorem body_take_succ {L : List ByteArray} {k : Nat} (h : k < L.length) : bodyL (L.take (k + 1)) = bodyL (L.take k) ++ headL L[k] ++ backL (headL L[k]).length := by
  rw [List.take_succ_eq_append_getElem h]
  unfold bodyL
  rw [List.flatMap_append]
  simp [entL]
theorem body_take_le (L : List ByteArray) (k : Nat) : (bodyL (L.take k)).length ≤ (bodyL L).length := by
  have e := congrArg bodyL (List.take_append_drop k L)
  unfold bodyL at e ⊢
  rw [List.flatMap_append] at e
  have := congrArg List.length e
  rw [List.length_append] at this
  omega
theorem bodyL_le_next {L : List ByteArray} {k : Nat} (h : k < L.length) : (bodyL (L.take k)).length + (headL L[k]).length + (backL (headL L[k]).length).length ≤ (bodyL L).length := by
  have h1 := body_take_le L (k + 1)
  rw [body_take_succ h, List.length_append, List.length_append] at h1
  exact h1
set_option maxHeartbeats 6400000 in
set_option maxRecDepth 100000 in
theorem refpBytes {w : World} {r : Nat} {G : Nat → Prop} {L : List ByteArray} (h : RefP w r G L) (he : ∀ x ∈ L, x.size ≤ 65536) (hz : sizeP L ≤ 900000000) (hn : L.length ≤ 900000000) : Calls Tryd.prog 48 #[.pointer (some ⟨r, 0, none⟩)] w fun e w' => e = .returned (.string (strOf (packL L))) ∧ Below w.heap.size w w' := by
  obtain ⟨v, h1, h2, _⟩ := h
  obtain ⟨a, cap, rfl, h3⟩ := texts_of_slice h2
  have c0 := cell_in h1 (i := 0) rfl
  have hrl := heap_lt h1
  have hlc := h3.1
  have HA := Lib.hid h3
  have HE := Lib.hid he
  have hbz : (bodyL L).length + 9 = sizeP L := rfl
  have HBz := Lib.hid hbz
  have hpk : packL L = leN 4 (sizeP L) ++ (leN 4 L.length ++ (bodyL L ++ [255])) := rfl
  rw [hpk]
  clear hpk
  obtain ⟨n, hnn⟩ : ∃ n, L.length = n := ⟨_, rfl⟩
  have HN := Lib.hid hnn
  rw [hnn] at hlc hn c0 ⊢
  obtain ⟨z, hzz⟩ : ∃ z, sizeP L = z := ⟨_, rfl⟩
  rw [hzz] at hbz hz HBz ⊢
  clear h1 h2 h3 he hnn hzz
  go_enter Tryd.func48, Tryd.ntmps48
  go_wp2_with fail
  go_loopw [3, 4] (fun l i wr => ∃ k : Nat, k ≤ n ∧ i = .int .i64 k ∧ Hid (SliceIs wr w.heap.size 5 l (bodyL (L.take k)).length ((bodyL (L.take k)).map u8v) ∧ Below w.heap.size w wr)) (fun _ i _ => n - (intOf i).toNat)
  case atStart => exact ⟨0, Nat.zero_le _, rfl, Lib.hid ⟨SliceIs.nil _ _ _, Below.refl _ _⟩⟩
  case round =>
    obtain ⟨k, hk, rfl, hI⟩ := hrel
    have c0w := (hI.out.2.cell (p := ⟨r, 0, none⟩) hrl).trans c0
    by_cases hlt : k < n
    · have hkl : k < L.length := by rw [HN.out]; exact hlt
      obtain ⟨b, o, rfl, hc⟩ := HA.out.2.resolve_left (by rw [HN.out]; omega)
      have hck : w.cell? ⟨b, o + k, none⟩ = some (.string (L.getD k ByteArray.empty)) := hc k (by rw [HN.out]; exact hlt)
      have hg : L.getD k ByteArray.empty = L[k] := by simp [List.getD, hkl]
      rw [hg] at hck
      have hckw := (hI.out.2.cell (World.block_lt_of_cell? w _ hck)).trans hck
      have hsm := HE.out _ (List.getElem_mem hkl)
      have HEn := Lib.hid (entry_doc L[k] (by omega))
      have hnx := bodyL_le_next hkl
      have hts := body_take_succ hkl
      have hhl := headL_length L[k]
      obtain ⟨x, hx⟩ : ∃ x, L[k] = x := ⟨_, rfl⟩
      rw [hx] at hckw HEn hnx hts hhl
      obtain ⟨hd, hhd⟩ : ∃ hd, headL x = hd := ⟨_, rfl⟩
      rw [hhd] at HEn hnx hts hhl
      obtain ⟨m, hm⟩ : ∃ m, hd.length = m := ⟨_, rfl⟩
      rw [hm] at HEn hnx hts hhl
      have HBk := Lib.hid (back_doc m (by omega))
      obtain ⟨bk, hbk⟩ : ∃ bk, backL m = bk := ⟨_, rfl⟩
      rw [hbk] at HBk hnx hts
      have HTs := Lib.hid hts
      have HNx := Lib.hid hnx
      have HM := Lib.hid hm
      clear hc hck hg hx hhd hbk hts hnx hm
      go_wp2_with fail
      refine (HEn.out _).mono ?_
      rintro en w2 ⟨v2, rfl, s2, b2⟩
      have hl2 := hI.out.1.below b2
      have hB2 := hI.out.2.trans (b2.mono hI.out.2.size)
      obtain ⟨v3, w3, r3, s3, b3⟩ := append_bytesAny hl2 hB2.size s2 (by have := HNx.out; have := HBz.out; omega)
      obtain ⟨a2, c2, rfl, _⟩ := s2.arg
      have HR3 := Lib.hid r3
      have HS3 := Lib.hid (And.intro s3 (hB2.trans b3))
      clear hl2 hB2 s2 b2 r3 s3 b3
      go_upto_region 9 with (at_builtin; refine wpList_append_run rfl rfl HR3.out ?_)
      go_wp2_with fail
      refine (HBk.out _).mono ?_
      rintro en w4 ⟨v4, rfl, s4, b4⟩
      have hl4 := HS3.out.1.below b4
      have hB4 := HS3.out.2.trans (b4.mono HS3.out.2.size)
      have hb4l : (bodyL (L.take k) ++ hd).length = (bodyL (L.take k)).length + m := by rw [List.length_append, HM.out]
      obtain ⟨v5, w5, r5, s5, b5⟩ := append_bytesAny hl4 hB4.size s4 (by have := HNx.out; have := HBz.out; omega)
      have HR5 := Lib.hid r5
      have HS5 := Lib.hid (show SliceIs w5 w.heap.size 5 v5 (bodyL (L.take (k + 1))).length ((bodyL (L.take (k + 1))).map u8v) ∧ Below w.heap.size w w5 from ⟨by rw [HTs.out]; exact s5.lenEq (by rw [List.length_append, hb4l]), hB4.trans b5⟩)
      clear hl4 hB4 s4 b4 r5 s5 b5 hb4l
      go_wp2_with (at_builtin; refine wpList_append_run rfl rfl HR5.out ?_)
      go_roundw
      case rel => exact ⟨k + 1, by omega, by go_num, HS5⟩
      case measure => simp [intOf]; omega
    · obtain rfl : k = n := by omega
      have hl := hI.out.1
      have hB := hI.out.2
      rw [← HN.out, List.take_length] at hl
      obtain ⟨bd, hbd⟩ : ∃ bd, bodyL L = bd := ⟨_, rfl⟩
      rw [hbd] at hl
      have HBd := Lib.hid hbd
      have hbz2 := HBz.out
      rw [hbd] at hbz2
      obtain ⟨nb, hnb⟩ : ∃ nb, bd.length = nb := ⟨_, rfl⟩
      rw [hnb] at hl hbz2
      obtain ⟨al, cl, rfl, hal⟩ := hl.arg
      have hlcl := hal.1
      have HL1 := Lib.hid (low_doc (B := wr.heap.size) (xs := []) (SliceIs.nil wr _ _) (Nat.le_refl _) z 4 (by omega) (by omega) (by simp))
      have hsz : (nb : Int) + 9 = (z : Int) := by omega
      have hwz : IntKind.u64.wrap (z : Int) = (z : Int) := IntWalk.u64_in _ ⟨by omega, by omega⟩
      have hwk : IntKind.u64.wrap (k : Int) = (k : Int) := IntWalk.u64_in _ ⟨by omega, by omega⟩
      have HL := Lib.hid (And.intro hl hB)
      have HNb := Lib.hid hnb
      clear hal hl hB hbd hnb
      go_wp2_with fail
      refine HL1.out.mono ?_
      rintro en w2 ⟨v2, rfl, s2, b2⟩
      have c2w := ((HL.out.2.trans (b2.mono HL.out.2.size)).cell (p := ⟨r, 0, none⟩) hrl).trans c0
      have HL2 := Lib.hid (low_doc s2 b2.size k 4 (by omega) (by omega) (by simp))
      have HB2 := Lib.hid b2
      clear s2 b2
      go_wp2_with fail
      refine HL2.out.mono ?_
      rintro en w3 ⟨v3, rfl, s3, b3⟩
      have hB3 := HB2.out.trans b3
      have hl3 := HL.out.1.below hB3
      obtain ⟨v4, w4, r4, s4, b4⟩ := append_bytesAny s3 hB3.size hl3 (by simp; omega)
      have HR4 := Lib.hid r4
      have hB4 := hB3.trans b4
      have hs4 : SliceIs w4 wr.heap.size 5 v4 ([] ++ leN 4 z ++ leN 4 k ++ bd).length (([] ++ leN 4 z ++ leN 4 k ++ bd).map u8v) := s4.lenEq (by have := HNb.out; simp only [List.length_append]; omega)
      obtain ⟨v5, w5, r5, s5, b5⟩ := append8 hs4 hB4.size 255 (by have := HNb.out; simp; omega)
      have HR5 := Lib.hid r5
      have hB5 := hB4.trans b5
      obtain ⟨a5, c5, rfl, _⟩ := s5.arg
      obtain ⟨b6, o6, rfl, hc6⟩ := s5.arg_bytes (by simp)
      have hcv := cells_conv (w := w5) (b := b6) (o := o6) (cap := c5) (m := ([] ++ leN 4 z ++ leN 4 k ++ bd).length + 1) (xs := [] ++ leN 4 z ++ leN 4 k ++ bd ++ [255]) (by simp; omega) hc6
      have HFin := Lib.hid (show strOf ([] ++ leN 4 z ++ leN 4 k ++ bd ++ [255]) = strOf (leN 4 z ++ (leN 4 k ++ (bodyL L ++ [255]))) by rw [HBd.out]; simp only [List.nil_append, List.append_assoc])
      have HB5 := Lib.hid (HL.out.2.trans (hB5.mono HL.out.2.size))
      obtain ⟨E, hE⟩ : ∃ E, strOf ([] ++ leN 4 z ++ leN 4 k ++ bd ++ [255]) = E := ⟨_, rfl⟩
      rw [hE] at hcv HFin
      obtain ⟨m6, hm6⟩ : ∃ m6, ([] ++ leN 4 z ++ leN 4 k ++ bd).length + 1 = m6 := ⟨_, rfl⟩
      rw [hm6] at hcv HR5
      clear hm6 hE hs4 r4 s4 b4 r5 s5 b5 s3 b3 hl3 hB3 hB4 hB5 hc6
      go_upto_region 13 with (at_builtin; refine wpList_append_run rfl rfl HR4.out ?_)
      go_wp2_with (at_builtin; refine wpList_append_run rfl rfl HR5.out ?_)
      go_ret
      exact ⟨by rw [← HFin.out]; first | rfl | trivial, HB5.out⟩
end Go.Proofs.YtfbhddllimfdlaaDoor

/- The document's Parse. -/
namespace Go.Proofs.YtfbhddllimfdlaaDoor
set_option linter.unusedVariables false
set_option linter.unusedSimpArgs false
open Go.RowKit
theorem appendS {w : World} {B n : Nat} {v : Value} {xs : List ByteArray} (h : SliceIs w B 9 v n (xs.map strV)) (hB : B ≤ w.heap.size) (x : ByteArray) (hn : n + 1 ≤ 1000000000) :
    ∃ v' w', (Builtin.append_ #[35, 35] 35 #[v, .slice (some ⟨w.heap.size, 0, none⟩) 1 1]).run Tryd.prog (w.alloc (.cells #[.string x] 9)) = .ok v' w' ∧ SliceIs w' B 9 v' (n + 1) ((xs ++ [x]).map strV) ∧ Below B w w' := by
  obtain ⟨i0, g1, g2, g3, g4⟩ := info_parts info_str
  have := run_append_one (P := Tryd.prog) (t := 35) (ty := 35) Tryd.underlying35 g1 g2 g3 g4 rfl h hB (strV x) rfl (by unfold maxLen; omega) (by omega)
  rw [List.map_append]
  exact this
theorem intT_size (n : Int) (hn : -9223372036854775808 ≤ n ∧ n ≤ 9223372036854775807) : (intT n).size ≤ 20 := by
  unfold intT Lib.itoa
  rw [strOf_size]
  split
  · have := dec_short n.natAbs (by omega)
    simp only [List.length_cons]; omega
  · have := dec_short n.toNat (by omega)
    omega
theorem readL_bound {l : List UInt8} {x : ByteArray} {n : Nat} (h : readL l = some (x, n)) : x.size ≤ 20 * n ∧ 1 ≤ n ∧ n ≤ l.length := by
  cases l with
  | nil => cases h
  | cons c b =>
    unfold readL at h
    simp only at h
    split at h
    · split at h
      · cases h
      · next h1 =>
        simp only [Option.some.injEq, Prod.mk.injEq] at h
        obtain ⟨rfl, rfl⟩ := h
        rw [strOf_size, List.length_take, List.length_cons]; omega
    · split at h
      · next hc =>
        split at h
        · cases h
        · next h1 =>
          simp only [Option.some.injEq, Prod.mk.injEq] at h
          obtain ⟨rfl, rfl⟩ := h
          rw [strOf_size, List.length_take, List.length_drop, List.length_cons]; omega
      · split at h
        · next hc =>
          simp only [Option.some.injEq, Prod.mk.injEq] at h
          obtain ⟨rfl, rfl⟩ := h
          have hlt := lowN_lt (b.take (c.toNat - 240))
          rw [List.length_take, Nat.min_eq_left hc.2] at hlt
          have := intT_size _ (signN_range (w := c.toNat - 240) (by omega) hlt)
          rw [List.length_cons]; omega
        · cases h
def ParsedP (s : ByteArray) (w : World) (e : Ending) (w' : World) : Prop :=
  ((∃ r L G, e = .returned (.tuple #[.pointer (some ⟨r, 0, none⟩), .int .i64 0]) ∧ OKL L ∧ s = strOf (packL L) ∧ RefP w' r G L ∧ ∀ k, G k → w.heap.size ≤ k) ∨ (e = .returned (.tuple #[.pointer none, .int .i64 4]) ∧ ∀ L, OKL L → s ≠ strOf (packL L))) ∧ Below w.heap.size w w'
theorem parsed_no {s : ByteArray} {w w' : World} {e : Ending} (he : e = .returned (.tuple #[.pointer none, .int .i64 4])) (hn : ∀ L, OKL L → s ≠ strOf (packL L)) (hb : Below w.heap.size w w') : ParsedP s w e w' := ⟨.inr ⟨he, hn⟩, hb⟩
theorem total_push (M : List ByteArray) (x : ByteArray) : totalT (M ++ [x]) = totalT M + x.size + 1 := by
  unfold totalT
  simp [List.sum_append]; omega
theorem take_push {L : List ByteArray} {k : Nat} (h : k < L.length) : L.take (k + 1) = L.take k ++ [L[k]] := List.take_succ_eq_append_getElem h
/-- What is known of the texts read so far. -/
structure SoFar (s : ByteArray) (many k q : Nat) (M : List ByteArray) : Prop where
  len : M.length = k
  each : ∀ x ∈ M, x.size ≤ 65536
  total : totalT M ≤ 21 * q
  twice : 2 * k ≤ q
  from8 : 8 ≤ q
  upto : q ≤ s.size
  true_ : ∀ L, OKL L → s = strOf (packL L) → L.length = many ∧ (k ≤ many → M = L.take k ∧ q = offL L k)
theorem SoFar.first {s : ByteArray} {many : Nat} (h9 : 9 ≤ s.size) (hm : lowN ((s.data.toList.drop 4).take 4) = many) : SoFar s many 0 8 [] := by
  refine ⟨rfl, by simp, by simp [totalT], by omega, by omega, by omega, fun L ok e => ?_⟩
  have h1 : s.data.toList = packL L := by rw [e, strOf_data]
  rw [h1, packL_many, lowN_leN, Nat.mod_eq_of_lt (by have := ok.many; omega)] at hm
  exact ⟨hm, fun _ => ⟨by simp, by rw [offL_zero]⟩⟩
theorem SoFar.read {s : ByteArray} {many k q : Nat} {M : List ByteArray} (h : SoFar s many k q M) (hk : k < many) {L : List ByteArray} (ok : OKL L) (e : s = strOf (packL L)) :
    ∃ hl : k < L.length, readL (s.data.toList.drop q) = some (L[k], (headL L[k]).length) ∧ L[k].size ≤ 65536 ∧ q + (headL L[k]).length + (backL (headL L[k]).length).length = offL L (k + 1) ∧ offL L (k + 1) + 1 ≤ s.size ∧ M = L.take k := by
  obtain ⟨h1, h2⟩ := h.true_ L ok e
  obtain ⟨h3, h4⟩ := h2 (by omega)
  have hl : k < L.length := by omega
  have hsm := ok.small hl
  have hd : s.data.toList = packL L := by rw [e, strOf_data]
  refine ⟨hl, by rw [hd, h4]; exact read_pack hl (by omega), hsm, ?_, ?_, h3⟩
  · rw [offL_succ hl, h4]; unfold entL; rw [List.length_append]; omega
  · have := (offL_lt L (k + 1)).2
    rw [e, strOf_size, packL_length]; exact this
theorem SoFar.none_ {s : ByteArray} {many k q : Nat} {M : List ByteArray} (h : SoFar s many k q M) (hk : k < many) (hr : readL (s.data.toList.drop q) = none) : ∀ L, OKL L → s ≠ strOf (packL L) := fun L ok e => by
  obtain ⟨hl, h1, _⟩ := h.read hk ok e
  rw [hr] at h1; cases h1
theorem SoFar.big {s : ByteArray} {many k q n : Nat} {M : List ByteArray} {x : ByteArray} (h : SoFar s many k q M) (hk : k < many) (hr : readL (s.data.toList.drop q) = some (x, n)) (hx : 65536 < x.size) : ∀ L, OKL L → s ≠ strOf (packL L) := fun L ok e => by
  obtain ⟨hl, h1, h2, _⟩ := h.read hk ok e
  rw [hr] at h1
  obtain ⟨rfl, _⟩ := Prod.mk.inj (Option.some.inj h1)
  omega
theorem SoFar.over {s : ByteArray} {many k q n : Nat} {M : List ByteArray} {x : ByteArray} (h : SoFar s many k q M) (hk : k < many) (hr : readL (s.data.toList.drop q) = some (x, n)) (ho : s.size < q + n + (backL n).length) : ∀ L, OKL L → s ≠ strOf (packL L) := fun L ok e => by
  obtain ⟨hl, h1, h2, h3, h4, _⟩ := h.read hk ok e
  rw [hr] at h1
  obtain ⟨rfl, rfl⟩ := Prod.mk.inj (Option.some.inj h1)
  omega
theorem SoFar.next {s : ByteArray} {many k q n : Nat} {M : List ByteArray} {x : ByteArray} (h : SoFar s many k q M) (hk : k < many) (hr : readL (s.data.toList.drop q) = some (x, n)) (hx : x.size ≤ 65536) (ho : q + n + (backL n).length ≤ s.size) : SoFar s many (k + 1) (q + n + (backL n).length) (M ++ [x]) := by
  have hb := readL_bound hr
  have hp := back_pos n
  refine ⟨by rw [List.length_append, h.len]; rfl, fun y hy => ?_, by rw [total_push]; have := h.total; omega, by have := h.twice; omega, by have := h.from8; omega, ho, fun L ok e => ?_⟩
  · rcases List.mem_append.1 hy with h1 | h1
    · exact h.each y h1
    · rw [List.mem_singleton.1 h1]; exact hx
  · obtain ⟨hl, h1, h2, h3, h4, h5⟩ := h.read hk ok e
    rw [hr] at h1
    obtain ⟨rfl, rfl⟩ := Prod.mk.inj (Option.some.inj h1)
    exact ⟨(h.true_ L ok e).1, fun _ => ⟨by rw [take_push hl, h5], h3⟩⟩
theorem SoFar.bounds {s : ByteArray} {many k q : Nat} {M : List ByteArray} (h : SoFar s many k q M) (hs : s.size ≤ 1048576) : k ≤ 524288 ∧ sizeP M ≤ 900000000 := by
  have h1 := h.twice
  have h2 := h.upto
  have h3 := body_le M h.each
  have h4 := h.total
  exact ⟨by omega, by unfold sizeP; omega⟩
theorem SoFar.done {s : ByteArray} {many q : Nat} {M : List ByteArray} (h : SoFar s many many q M) (hs : s.size ≤ 1048576) (he : strOf (packL M) = s) : OKL M := by
  have h1 := h.bounds hs
  refine ⟨?_, by rw [h.len]; omega, h.each⟩
  have := congrArg ByteArray.size he
  rw [strOf_size, packL_length] at this
  omega
theorem SoFar.wrong {s : ByteArray} {many q : Nat} {M : List ByteArray} (h : SoFar s many many q M) (he : strOf (packL M) ≠ s) : ∀ L, OKL L → s ≠ strOf (packL L) := fun L ok e => by
  obtain ⟨h1, h2⟩ := h.true_ L ok e
  have h3 := (h2 (Nat.le_refl _)).1
  rw [← h1, List.take_length] at h3
  rw [h3] at he
  exact he e.symm
end Go.Proofs.YtfbhddllimfdlaaDoor

/- The document's Parse: the walk. -/
namespace Go.Proofs.YtfbhddllimfdlaaDoor
set_option linter.unusedVariables false
set_option linter.unusedSimpArgs false
open Go.RowKit
set_option maxHeartbeats 6400000 in
set_option maxRecDepth 100000 in
theorem refpParse (s : ByteArray) (hs : s.size ≤ 1048576) (w : World) :
    Calls Tryd.prog 12 #[.string s] w fun e w' => ParsedP s w e w' := by
  have hd3 : decide ((1073741824 : Int) < (s.size : Int)) = false := by simp; omega
  by_cases h9 : s.size < 9
  · have hd1 : decide ((s.size : Int) < 9) = true := decide_eq_true (by omega)
    have HNo := Lib.hid (show ∀ L, OKL L → s ≠ strOf (packL L) from fun L ok e => by
      have := sizeP_pos L
      have h2 := congrArg ByteArray.size e
      rw [strOf_size, packL_length] at h2
      omega)
    clear h9
    go_enter Tryd.func12, Tryd.ntmps12
    go_wp2_with fail
    go_ret2
    exact parsed_no rfl HNo.out (Below.refl _ _)
  · have hd1 : decide ((s.size : Int) < 9) = false := decide_eq_false (by omega)
    have h9' : 9 ≤ s.size := by omega
    have hcs := cut_size (s := s) (a := 4) (n := 4) (by omega)
    have hcd := cut_data s 4 4
    have hnm := fun w' => number_doc (s.extract 4 (4 + 4)) w' (by omega)
    rw [hcd] at hnm
    have hsx : s.extract 4 (4 + 4) = s.extract 4 8 := rfl
    rw [hsx] at hnm
    have hmb : lowN ((s.data.toList.drop 4).take 4) < 4294967296 := by
      have := lowN_lt ((s.data.toList.drop 4).take 4)
      rw [List.length_take, List.length_drop, str_len, Nat.min_eq_left (by omega)] at this
      exact this
    have hf := SoFar.first h9' rfl
    obtain ⟨many, hmn⟩ : ∃ many, lowN ((s.data.toList.drop 4).take 4) = many := ⟨_, rfl⟩
    rw [hmn] at hnm hmb hf
    have HNm := Lib.hid hnm
    have HF := Lib.hid hf
    have HNw := Lib.hid (refpNew w)
    have hi4 : (4 : Int) ≤ 8 := by omega
    have hi8 : (8 : Int) ≤ (s.size : Int) := by omega
    clear hcs hcd hnm hsx hmn hf h9
    go_enter Tryd.func12, Tryd.ntmps12
    go_wp2_with fail
    refine HNw.out.mono ?_
    rintro e w1 ⟨r, rfl, hr, hh, b1⟩
    have HH := Lib.hid hh
    have HR := Lib.hid hr
    have hrl := heap_lt hh
    have B1 := Lib.hid b1
    clear hh hr b1 HNw
    go_wp2_with fail
    refine (HNm.out _).mono ?_
    rintro e w' ⟨rfl, rfl⟩
    go_wp2_with fail
    go_loopw [6, 7] (fun a i wr => ∃ (k q : Nat) (M : List ByteArray), k ≤ many ∧ a = .int .i64 q ∧ i = .int .u64 k ∧ Hid (SoFar s many k q M) ∧ Hid (Below w.heap.size w wr) ∧ Hid (∃ v, wr.heap[r]? = some (.cells #[v] 81 (0, 0)) ∧ SliceIs wr (r + 1) 9 v k (M.map strV))) (fun _ i _ => many - (intOf i).toNat)
    case atStart => exact ⟨0, 8, [], Nat.zero_le _, rfl, rfl, HF.out, B1, Lib.hid ⟨_, HH.out, SliceIs.nil _ _ _⟩⟩
    case round =>
      obtain ⟨k, q, M, hk, rfl, rfl, hS, hB, hM⟩ := hrel
      obtain ⟨v, hh, hsl⟩ := hM.out
      have hbd := hS.out.bounds hs
      have hkb := hbd.1
      have hqs := hS.out.upto
      by_cases hlt : k < many
      · have hkm : decide ((1048576 : Int) ≤ (k : Int)) = false := decide_eq_false (by omega)
        have hcd := cut_data s q (s.size - q)
        rw [show q + (s.size - q) = s.size by omega, List.take_of_length_le (by rw [List.length_drop, str_len]; omega)] at hcd
        have hcsz : (s.extract q s.size).size ≤ 1073741824 := by
          have := congrArg List.length hcd
          rw [str_len, List.length_drop, str_len] at this
          omega
        have htx := text_doc (s.extract q s.size) hcsz
        rw [hcd] at htx
        clear hcd hcsz
        cases hrd : readL (s.data.toList.drop q) with
        | none =>
          rw [readV_none hrd] at htx
          have HTx := Lib.hid htx
          have HNo := Lib.hid (hS.out.none_ hlt hrd)
          clear htx hrd hh hsl hbd
          go_wp2_with fail
          refine (HTx.out _).mono ?_
          rintro e w2 ⟨hv, b2⟩
          subst hv
          have B2 := Lib.hid (hB.out.trans (b2.mono hB.out.size))
          clear b2
          unfold noV
          go_wp2_with fail
          go_ret2
          exact parsed_no rfl HNo.out B2.out
        | some xn =>
          obtain ⟨x, n⟩ := xn
          rw [readV_some hrd] at htx
          have HTx := Lib.hid htx
          have hbn := readL_bound hrd
          rw [List.length_drop, str_len] at hbn
          by_cases hx : x.size ≤ 65536
          · have hdx : decide ((65536 : Int) < (x.size : Int)) = false := decide_eq_false (by omega)
            have hbk := backL_length n (by omega)
            have HBk := Lib.hid (back_doc n (by omega))
            have hnext := fun h => hS.out.next hlt hrd hx h
            have hover := fun h => hS.out.over hlt hrd h
            obtain ⟨nb, hnb⟩ : ∃ nb, (backL n).length = nb := ⟨_, rfl⟩
            rw [hnb] at HBk hnext hover hbk
            have HNx := Lib.hid hnext
            have HOv := Lib.hid hover
            have hMl := hS.out.len
            have HMl := Lib.hid hMl
            clear hnb hrd hnext hover htx hbd hMl
            obtain ⟨av, cv, rfl, hAv⟩ := hsl.arg
            have hkc := hAv.1
            have c0 := cell_in hh (i := 0) rfl
            have f0 := frozen_in hh 0
            have HS := Lib.hid (And.intro hh hsl)
            have hrw := heap_lt hh
            clear hh hsl hAv
            go_wp2_with fail
            refine (HTx.out _).mono ?_
            rintro e w2 ⟨rfl, b2⟩
            have hB2 := hB.out.trans (b2.mono hB.out.size)
            have hh2 := (b2.block _ hrw).trans HS.out.1
            have hs2 := HS.out.2.below b2
            have c2 := cell_in hh2 (i := 0) rfl
            obtain ⟨v3, w3, r3, s3, b3⟩ := appendS hs2 (show r + 1 ≤ w2.heap.size from heap_lt hh2) x (by omega)
            obtain ⟨a3, c3, rfl, hA3⟩ := s3.arg
            have hh3 := (b3.block _ (Nat.lt_succ_self r)).trans hh2
            have c3' := cell_in hh3 (i := 0) rfl
            have f3 := frozen_in hh3 0
            have HR3 := Lib.hid r3
            have hrw0 : w.heap.size ≤ r := by rw [HR.out]; exact Nat.le_refl _
            obtain ⟨w4, hw4⟩ : ∃ w4, w4 = w3.setCell ⟨r, 0, none⟩ (.slice a3 (k + 1) c3) := ⟨_, rfl⟩
            have hc4 : Chg (fun i => i = r) w3 w4 := by rw [hw4]; exact Chg.setCell _ _ _ _ rfl
            have hh4 : w4.heap[r]? = some (.cells #[.slice a3 (k + 1) c3] 81 (0, 0)) := by rw [hw4]; exact setCell_head hh3 0 _
            have hs4 : SliceIs w4 (r + 1) 9 (.slice a3 (k + 1) c3) (k + 1) ((M ++ [x]).map strV) := s3.chg hc4 fun i hi he => by
              have := (s3.block_lt hi).1
              omega
            have HB4 := Lib.hid (show Below w.heap.size w w4 from belowChg (hB2.trans (b3.mono (by omega))) hc4 (Nat.le_of_lt (Nat.lt_of_le_of_lt hrw0 (heap_lt hh3))) fun i hi _ => by omega)
            have HS4 := Lib.hid (And.intro hh4 hs4)
            have HW4 := Lib.hid hw4
            have hh4l := heap_lt hh4
            clear r3 s3 b3 hs2 hB2 b2 hA3 hc4 hh4 hs4 hw4 hh3 hh2 HTx HS
            go_wp2_with (at_builtin; refine wpList_append_run rfl rfl HR3.out ?_)
            rw [← HW4.out]
            refine (HBk.out _).mono ?_
            rintro e w5 ⟨v5, rfl, s5, b5⟩
            obtain ⟨a5, c5, rfl, _⟩ := s5.arg
            have HB5 := Lib.hid (HB4.out.trans (b5.mono HB4.out.size))
            have HS5 := Lib.hid (show ∃ v, w5.heap[r]? = some (.cells #[v] 81 (0, 0)) ∧ SliceIs w5 (r + 1) 9 v (k + 1) ((M ++ [x]).map strV) from ⟨_, (b5.block _ hh4l).trans HS4.out.1, HS4.out.2.below b5⟩)
            clear s5 b5 c0 f0 c2 c3' f3 HS4 HB4 HW4 HR3 hM
            by_cases ho : q + n + nb ≤ s.size
            · have hdo : decide ((s.size : Int) < (q : Int) + (n : Int) + (nb : Int)) = false := decide_eq_false (by omega)
              have HN := Lib.hid (HNx.out ho)
              go_wp2_with fail
              go_roundw
              case rel => exact ⟨k + 1, q + n + nb, M ++ [x], by omega, by go_num, by go_num, HN, HB5, HS5⟩
              case measure => simp [intOf]; omega
            · have hdo : decide ((s.size : Int) < (q : Int) + (n : Int) + (nb : Int)) = true := decide_eq_true (by omega)
              have HN := Lib.hid (HOv.out (by omega))
              go_wp2_with fail
              go_ret2
              exact parsed_no rfl HN.out HB5.out
          · have hdx : decide ((65536 : Int) < (x.size : Int)) = true := decide_eq_true (by omega)
            have HNo := Lib.hid (hS.out.big hlt hrd (by omega))
            clear htx hrd hh hsl hbd
            go_wp2_with fail
            refine (HTx.out _).mono ?_
            rintro e w2 ⟨rfl, b2⟩
            have B2 := Lib.hid (hB.out.trans (b2.mono hB.out.size))
            clear b2
            go_wp2_with fail
            go_ret2
            exact parsed_no rfl HNo.out B2.out
      · obtain rfl : k = many := by omega
        have hMl := hS.out.len
        have hRP : RefP wr r (fun i => i = r ∨ vblock v = some i) M := ⟨v, hh, by rw [hMl]; exact hsl, fun i => Iff.rfl⟩
        have HBy := Lib.hid (refpBytes hRP hS.out.each hbd.2 (by omega))
        have HFin := Lib.hid (show ∀ w', Below wr.heap.size wr w' → OKL M → s = strOf (packL M) → ParsedP s w (.returned (.tuple #[.pointer (some ⟨r, 0, none⟩), .int .i64 0])) w' from fun w' hb ok e =>
          ⟨.inl ⟨r, M, _, rfl, ok, e, hRP.below hb, fun i hi => by
            have hr0 : w.heap.size ≤ r := by rw [HR.out]; exact Nat.le_refl _
            rcases hi with rfl | hi
            · exact hr0
            · have := (hsl.block_lt hi).1
              omega⟩, hB.out.trans (hb.mono hB.out.size)⟩)
        by_cases heq : strOf (packL M) = s
        · have ok := hS.out.done hs heq
          have HF2 := Lib.hid (fun w' hb => HFin.out w' hb ok heq.symm)
          have hne1 := str_eq heq
          obtain ⟨E, hE⟩ : ∃ E, strOf (packL M) = E := ⟨_, rfl⟩
          rw [hE] at HBy hne1
          clear hE heq ok hRP hh hsl hMl HFin
          go_wp2_with fail
          refine HBy.out.mono ?_
          rintro e w2 ⟨rfl, b2⟩
          have B2 := Lib.hid b2
          clear b2
          go_wp2_with fail
          go_ret2
          exact HF2.out _ B2.out
        · have HNo := Lib.hid (hS.out.wrong heq)
          have hne1 := str_ne heq
          obtain ⟨E, hE⟩ : ∃ E, strOf (packL M) = E := ⟨_, rfl⟩
          rw [hE] at HBy hne1
          clear hE heq hRP hh hsl hMl HFin
          go_wp2_with fail
          refine HBy.out.mono ?_
          rintro e w2 ⟨rfl, b2⟩
          have B2 := Lib.hid (hB.out.trans (b2.mono hB.out.size))
          clear b2
          go_wp2_with fail
          go_ret2
          exact parsed_no rfl HNo.out B2.out
end Go.Proofs.YtfbhddllimfdlaaDoor

/- pack.Parse, of bytes that are no piece. -/
namespace Go.Proofs.YtfbhddllimfdlaaDoor
set_option linter.unusedVariables false
set_option linter.unusedSimpArgs false
open Go.RowKit
/-- What Parse has found so far. -/
structure Found (bs : List UInt8) (n k q : Nat) (M : List ByteArray) : Prop where
  len : M.length = k
  each : ∀ x ∈ M, x.size ≤ 65536
  at_ : q = 8 + (bodyL M).length
  upto : q + 1 ≤ n
  twice : 2 * k + 8 ≤ q
  same : (bs.drop 8).take (bodyL M).length = bodyL M
theorem entL_two (x : ByteArray) : 2 ≤ (entL x).length := by
  unfold entL
  rw [List.length_append]
  have := (headL_length x).1
  have := back_pos (headL x).length
  omega
theorem Found.next {bs : List UInt8} {n k q : Nat} {M : List ByteArray} {x : ByteArray} (h : Found bs n k q M) (hx : x.size ≤ 65536) (hq : q + (entL x).length + 1 ≤ n) (he : (bs.drop q).take (entL x).length = entL x) : Found bs n (k + 1) (q + (entL x).length) (M ++ [x]) := by
  have hb : bodyL (M ++ [x]) = bodyL M ++ entL x := by unfold bodyL; rw [List.flatMap_append]; simp
  refine ⟨by rw [List.length_append, h.len]; rfl, fun y hy => ?_, by rw [hb, List.length_append, h.at_]; omega, hq, by have := h.twice; have := entL_two x; omega, ?_⟩
  · rcases List.mem_append.1 hy with h1 | h1
    · exact h.each y h1
    · rw [List.mem_singleton.1 h1]; exact hx
  · rw [hb, List.length_append, List.take_add, h.same, List.drop_drop, show 8 + (bodyL M).length = q from h.at_.symm, he]
theorem Found.end_ {bs : List UInt8} {n k q : Nat} {M : List ByteArray} (h : Found bs n k q M) (hn : bs.length = n) (hq : q = n - 1) (h1 : lowN (bs.take 4) = n) (h2 : lowN ((bs.drop 4).take 4) = k) (h3 : bs[n - 1]? = some 255) : bs = packL M := by
  have ha := h.at_
  have hu := h.upto
  have hsz : sizeP M = n := by unfold sizeP; omega
  have e1 : bs = bs.take 4 ++ ((bs.drop 4).take 4 ++ ((bs.drop 8).take (bodyL M).length ++ bs.drop (n - 1))) := by
    have a1 := (List.take_append_drop 4 bs).symm
    have a2 := (List.take_append_drop 4 (bs.drop 4)).symm
    have a3 := (List.take_append_drop (bodyL M).length (bs.drop 8)).symm
    rw [List.drop_drop] at a2 a3
    rw [show 8 + (bodyL M).length = n - 1 by omega] at a3
    rw [← a3]
    rw [show (4 + 4) = 8 from rfl] at a2
    rw [← a2]
    exact a1
  have e2 : bs.drop (n - 1) = [255] := by
    have hl : n - 1 < bs.length := by omega
    rw [List.drop_eq_getElem_cons hl, List.drop_eq_nil_of_le (by omega)]
    rw [List.getElem?_eq_getElem hl] at h3
    rw [Option.some.inj h3]
  have leq : ∀ l : List UInt8, l.length = 4 → leN 4 (lowN l) = l := fun l hl => by
    have := leN_lowN l
    rw [hl] at this; exact this
  have e3 : bs.take 4 = leN 4 n := by rw [← h1]; exact (leq _ (by rw [List.length_take]; omega)).symm
  have e4 : (bs.drop 4).take 4 = leN 4 k := by rw [← h2]; exact (leq _ (by rw [List.length_take, List.length_drop]; omega)).symm
  rw [e1, e2, e3, e4, h.same]
  unfold packL
  rw [hsz, h.len]
end Go.Proofs.YtfbhddllimfdlaaDoor

/- pack.Parse, of bytes that are no piece: the walk. -/
namespace Go.Proofs.YtfbhddllimfdlaaDoor
set_option linter.unusedVariables false
set_option linter.unusedSimpArgs false
open Go.RowKit
def nilE : Ending := .returned (.tuple #[.pointer none, .int .i64 4])
set_option maxHeartbeats 12800000 in
set_option maxRecDepth 100000 in
theorem parse_neg {w : World} (hl : Laid w) (s : ByteArray) (hs : s.size ≤ 1048576) (hno : ∀ L, OKL L → s ≠ strOf (packL L)) :
    Calls Tryd.prog 11 #[.string s] w fun e w' => e = nilE ∧ Below w.heap.size w w' := by
  by_cases h8 : s.size ≤ 8
  · exact (parse_short s h8 w).mono fun e w' ⟨h1, h2⟩ => ⟨h1, by rw [h2]; exact Below.refl _ _⟩
  · have hd1 : decide ((s.size : Int) ≤ 8) = false := by simp; omega
    have hd2 : decide ((1073741824 : Int) < (s.size : Int)) = false := by simp; omega
    have hd3 : decide ((2147483647 : Int) < (s.size : Int)) = false := by simp; omega
    obtain ⟨cap, cur, w1, hcv, hrow, hsize, hle, hcm, htk, hch⟩ := run_bytes_string (P := Tryd.prog) w 9 68 5 Tryd.underlying9 Tryd.underlying68 Tryd.underlying5 s (by omega)
    have hgs := hrow.lt
    obtain ⟨bs, hbs⟩ : ∃ bs, s.data.toList = bs := ⟨_, rfl⟩
    have hbl : bs.length = s.size := by rw [← hbs]; exact str_len s
    rw [hbs] at htk
    have hcell : ∀ i (hi : i < bs.length), w1.cell? ⟨w.heap.size, i, none⟩ = some (.int .u8 bs[i].toNat) := fun i hi => by
      refine hrow.cell ?_
      have e := congrArg (fun l => l[i]?) htk
      rw [hbl] at hi
      simp only [List.getElem?_take_of_lt hi, Array.getElem?_toList, List.getElem?_map, List.getElem?_eq_getElem (show i < bs.length by omega), Option.map_some] at e
      exact e
    obtain ⟨w2, hw2⟩ : ∃ w2, w2 = w1.alloc (.cells #[.slice (some ⟨w.heap.size, 0, none⟩) s.size cap] 70) := ⟨_, rfl⟩
    have hch2 : Chg (fun _ => False) w w2 := by rw [hw2]; exact hch.trans (Chg.alloc _ _ _) fun _ h _ => h
    have hB2 : Below w.heap.size w w2 := belowChg (Below.refl _ _) hch2 (Nat.le_refl _) fun k hk => hk.elim
    have hcell2 : ∀ i (hi : i < bs.length), w2.cell? ⟨w.heap.size, i, none⟩ = some (.int .u8 bs[i].toNat) := fun i hi => by
      have hb : Below w1.heap.size w1 w2 := by rw [hw2]; exact (Below.refl _ _).alloc (Nat.le_refl _) _
      rw [hb.cell (show w.heap.size < w1.heap.size from hgs)]
      exact hcell i hi
    have hh2 : w2.heap[w1.heap.size]? = some (.cells #[.slice (some ⟨w.heap.size, 0, none⟩) s.size cap] 70 (0, 0)) := by rw [hw2]; exact heap_new _ _
    have c0 := cell_in hh2 (i := 0) rfl
    have hpl := heap_lt hh2
    have hcs : ∀ (o : Nat) (xs : List UInt8), (bs.drop o).take xs.length = xs → ∀ (w' : World), Below w2.heap.size w2 w' → ∀ i (hi : i < xs.length), w'.cell? ⟨w.heap.size, o + i, none⟩ = some (.int .u8 xs[i].toNat) := fun o xs hx w' hb i hi => by
      have e := congrArg (fun l => l[i]?) hx
      simp only [List.getElem?_take_of_lt hi, List.getElem?_drop, List.getElem?_eq_getElem hi] at e
      obtain ⟨h1, h2⟩ := List.getElem?_eq_some_iff.1 e
      have h3 := hcell2 _ h1
      rw [hb.cell (World.block_lt_of_cell? w2 _ h3), h3, h2]
    have hl4 : ((bs.drop 4).take 4).length = 4 := by rw [List.length_take, List.length_drop]; omega
    have hl0 : (bs.take 4).length = 4 := by rw [List.length_take]; omega
    have HLen := Lib.hid (plen_raw (w := w2) ((bs.drop 4).take 4) hl4 c0 (by omega) hle hcm (hcs 4 _ (by rw [hl4]) w2 (Below.refl _ _)))
    have HLow := Lib.hid (low_any w.heap.size 0 4 cap (bs.take 4) w2 hl0 (by omega) (hcs 0 _ (by rw [hl0, List.drop_zero]) w2 (Below.refl _ _)))
    have hll := lowN_lt (bs.take 4)
    have hlm := lowN_lt ((bs.drop 4).take 4)
    rw [hl0, show (256 : Nat) ^ 4 = 4294967296 by decide] at hll
    rw [hl4, show (256 : Nat) ^ 4 = 4294967296 by decide] at hlm
    have hli : s.size - 1 < bs.length := by omega
    obtain ⟨last, hlast⟩ : ∃ last, bs[s.size - 1]'hli = last := ⟨_, rfl⟩
    have hlc : w2.cell? ⟨w.heap.size, s.size - 1, none⟩ = some (.int .u8 last.toNat) := by rw [hcell2 _ hli, hlast]
    have hl255 := last.toNat_lt
    have hend : ∀ (k q : Nat) (M : List ByteArray), Found bs s.size k q M → k ≤ 1048576 → q = s.size - 1 → lowN (bs.take 4) = s.size → lowN ((bs.drop 4).take 4) = k → last.toNat = 255 → False := fun k q M hF hk h1 h2 h3 h4 => by
      have h5 := hF.end_ hbl h1 h2 h3 (by
        rw [List.getElem?_eq_getElem hli, hlast]
        congr 1
        exact UInt8.toNat_inj.1 h4)
      have h6 : OKL M := ⟨by have := hF.at_; unfold sizeP; omega, by rw [hF.len]; exact hk, hF.each⟩
      exact hno M h6 (by rw [← h5, ← hbs, strOf_toList])
    have HEnd := Lib.hid hend
    obtain ⟨lo, hlo⟩ : ∃ lo, lowN (bs.take 4) = lo := ⟨_, rfl⟩
    obtain ⟨many, hmn⟩ : ∃ many, lowN ((bs.drop 4).take 4) = many := ⟨_, rfl⟩
    rw [hlo, hmn] at HEnd
    rw [hlo] at HLow hll
    rw [hmn] at HLen hlm
    obtain ⟨la, hla⟩ : ∃ la, last.toNat = la := ⟨_, rfl⟩
    rw [hla] at HEnd hlc hl255
    have HCs := Lib.hid hcs
    have HW2 := Lib.hid hw2
    have HB2 := Lib.hid hB2
    have HLd := Lib.hid (show ∀ w', Below w2.heap.size w2 w' → Laid w' from fun w' hb => hl.below (hB2.trans (hb.mono hB2.size)))
    have HBl := Lib.hid hbl
    have HBs := Lib.hid hbs
    have HFin := Lib.hid (show ∀ w', Below w2.heap.size w2 w' → Below w.heap.size w w' from fun w' hb => hB2.trans (hb.mono hB2.size))
    unfold maxLen at hcm
    have hsu : IntKind.u64.wrap (s.size : Int) = (s.size : Int) := IntWalk.u64_in _ ⟨by omega, by omega⟩
    have hlast' : w2.cell? ⟨w.heap.size, s.size - 1, none⟩ = some (.int .u8 (la : Int)) := hlc
    have hmi : IntKind.i64.wrap (many : Int) = (many : Int) := IntWalk.i64_in _ ⟨by omega, by omega⟩
    clear hw2 hch hch2 hB2 hh2 hcell hcell2 hcs hrow htk hl hl4 hl0 hend hbl hbs hlast hli hlo hmn hla hsize hno hgs
    have h9 : 9 ≤ s.size := by omega
    clear h8
    by_cases hm1 : 1048576 < many
    · have hd4 : decide ((1048576 : Int) < (many : Int)) = true := by simp; omega
      go_enter Tryd.func11, Tryd.ntmps11
      go_wp2_with fail
      rw [← HW2.out]
      refine HLen.out.mono ?_
      rintro e w' ⟨rfl, rfl⟩
      go_wp2_with fail
      go_ret2
      exact ⟨rfl, HB2.out⟩
    · have hd4 : decide ((1048576 : Int) < (many : Int)) = false := by simp; omega
      by_cases hm2 : lo = s.size
      · have hd5 : ((lo : Int) != (s.size : Int)) = false := by rw [bne_eq_false_iff_eq]; omega
        by_cases hm3 : la = 255
        · have hd6 : ((la : Int) != 255) = false := by rw [bne_eq_false_iff_eq]; omega
          go_enter Tryd.func11, Tryd.ntmps11
          go_wp2_with fail
          rw [← HW2.out]
          refine HLen.out.mono ?_
          rintro e w' ⟨rfl, rfl⟩
          go_wp2_with fail
          refine HLow.out.mono ?_
          rintro e w' ⟨rfl, rfl⟩
          go_wp2_with fail
          generalize hpe : w1.heap.size = p at *
          have HPe := Lib.hid hpe
          clear hpe HLow HLen hlast' hlc hcv hsu
          go_loopw [6, 57] (fun x i wr => ∃ (k q : Nat) (M : List ByteArray), k ≤ many ∧ i = .int .i64 k ∧ x = .int .i64 q ∧ q + 1 ≤ s.size ∧ Hid (Found bs s.size k q M) ∧ Hid (Below w2.heap.size w2 wr)) (fun _ i _ => many - (intOf i).toNat)
          case atStart => exact ⟨0, 8, [], Nat.zero_le _, rfl, rfl, by omega, Lib.hid ⟨rfl, by simp, by simp [bodyL_nil], by omega, by omega, by simp [bodyL_nil]⟩, Lib.hid (Below.refl _ _)⟩
          case round =>
            obtain ⟨k, q, M, hk, rfl, rfl, hq1, hF, hB⟩ := hrel
            by_cases hlt : k < many
            · have hxs : ((bs.drop q).take (s.size - 1 - q)).length = s.size - 1 - q := by rw [List.length_take, List.length_drop, HBl.out]; omega
              have hrd := read_any w.heap.size q (s.size - 1 - q) (cap - q) ((bs.drop q).take (s.size - 1 - q)) (HLd.out _ hB.out) hxs (.inl (by omega)) (by omega) (HCs.out q _ (by rw [hxs]) _ hB.out)
              have c0w := (hB.out.cell (p := ⟨p, 0, none⟩) hpl).trans c0
              have hcc : ¬ cap = q := by omega
              have hle1 : q ≤ s.size - 1 := by omega
              cases hrl : readL ((bs.drop q).take (s.size - 1 - q)) with
              | none =>
                rw [readV_none hrl] at hrd
                have HRd := Lib.hid hrd
                clear hrd hrl hxs
                go_wp2_with fail
                refine HRd.out.mono ?_
                rintro e w3 ⟨hv, b3⟩
                subst hv
                have B3 := Lib.hid (hB.out.trans (b3.mono hB.out.size))
                clear b3 HRd
                unfold noV
                go_wp2_with fail
                go_ret2
                exact ⟨rfl, HFin.out _ B3.out⟩
              | some xn =>
                obtain ⟨x, n⟩ := xn
                rw [readV_some hrl] at hrd
                have hbn := readL_bound hrl
                rw [hxs] at hbn
                have HRd := Lib.hid hrd
                clear hrd hrl hxs
                by_cases hx : x.size ≤ 65536
                · have hdx : decide ((65536 : Int) < (x.size : Int)) = false := by simp; omega
                  have HEn := Lib.hid (fun w' (hb : Below w2.heap.size w2 w') => entry_any x (by omega) (HLd.out w' hb))
                  have hbk := backL_length n (by omega)
                  have HBk := Lib.hid (fun w' => back_any n (by omega) w')
                  obtain ⟨nb, hnb⟩ : ∃ nb, (backL n).length = nb := ⟨_, rfl⟩
                  rw [hnb] at HBk hbk
                  have hel := entL_length x (by omega)
                  have hel2 := entL_two x
                  have hnx := fun h1 h2 => hF.out.next hx h1 h2
                  have hcst := cut_str s q (entL x).length
                  rw [HBs.out] at hcst
                  obtain ⟨ne, hne⟩ : ∃ ne, (entL x).length = ne := ⟨_, rfl⟩
                  rw [hne] at HEn hel hnx hcst hel2
                  have HNe := Lib.hid hne
                  have HNx := Lib.hid hnx
                  have HCst := Lib.hid hcst
                  clear hnb hne hnx hcst
                  go_wp2_with fail
                  refine HRd.out.mono ?_
                  rintro e w3 ⟨rfl, b3⟩
                  have B3 := Lib.hid (hB.out.trans (b3.mono hB.out.size))
                  clear b3 HRd
                  go_wp2_with fail
                  refine (HEn.out _ B3.out).mono ?_
                  rintro e w4 ⟨v4, rfl, s4, b4⟩
                  have B4 := Lib.hid (B3.out.trans (b4.mono B3.out.size))
                  obtain ⟨ae, ce, rfl, hae⟩ := s4.arg
                  have hce := hae.1
                  have HCv := Lib.hid (show ∀ w', Below w4.heap.size w4 w' → (convert 68 9 (.slice ae ne ce)).run Tryd.prog w' = .ok (.string (strOf (entL x))) w' from fun w' hb => by
                    obtain ⟨b, o, rfl, hc⟩ := (s4.below hb).arg_bytes (by omega)
                    exact cells_conv HNe.out hc)
                  obtain ⟨E, hE⟩ : ∃ E, strOf (entL x) = E := ⟨_, rfl⟩
                  rw [hE] at HCv
                  have HE := Lib.hid hE
                  clear s4 b4 hae HEn hE
                  obtain ⟨X1, f, hX1, hf, hFc⟩ := classOf (fun y => (convert 68 9 (.slice ae ne ce)).run Tryd.prog y = .ok (.string E) y) (HCv.out w4 (Below.refl _ _))
                  have HFc := Lib.hid hFc
                  have HF1 := Lib.hid (hFc (w4.drewN 1) (HCv.out _ (belowN (Below.refl _ _) 1)))
                  clear hFc
                  have hcase : ((ne : Int) != (n : Int) + (nb : Int)) = true ∨ (((ne : Int) != (n : Int) + (nb : Int)) = false ∧ decide ((s.size : Int) - 1 - (q : Int) < (ne : Int)) = true) ∨ (((ne : Int) != (n : Int) + (nb : Int)) = false ∧ decide ((s.size : Int) - 1 - (q : Int) < (ne : Int)) = false ∧ q + ne + 1 ≤ s.size) := by
                    by_cases h1 : ne = n + nb
                    · by_cases h2 : s.size - 1 - q < ne
                      · exact .inr (.inl ⟨by rw [bne_eq_false_iff_eq]; omega, by simp; omega⟩)
                      · exact .inr (.inr ⟨by rw [bne_eq_false_iff_eq]; omega, by simp; omega, by omega⟩)
                    · exact .inl (by rw [bne_iff_ne]; omega)
                  rcases hcase with hdn | ⟨hdn, hde⟩ | ⟨hdn, hde, hqn⟩
                  case' inr.inr =>
                    have hse : (E.toList == (s.extract q (q + ne)).toList) = true ∨ (E.toList == (s.extract q (q + ne)).toList) = false := by
                      cases E.toList == (s.extract q (q + ne)).toList <;> simp
                    rcases hse with hstr | hstr
                  case inl | inr.inl | inr.inr.inr =>
                    go_wp2_with fail
                    refine wp_region_text ⟨[4], [], 30⟩ (fun w' => ∃ y : X1, w' = f y) (by kernel_rfl) (by kernel_rfl) HF1.out ?_
                    refine wpC_seg false (HF1.out) 4 0 _ _ (by rfl) (by rfl) ?_
                    simp only [List.take_succ_cons, List.take_zero, List.drop_succ_cons, List.drop_zero, Bool.false_eq_true, if_false, Nat.zero_add, Nat.reduceAdd]
                    repeat (go_big_quiet_step (fail))
                    refine wpQuiet_nil ?_
                    refine wpC_loud (by rfl) (by rfl) fun K hK => ?_
                    go_wp2_with fail
                    refine (HBk.out _).mono ?_
                    rintro e w5 ⟨v5, rfl, s5, b5⟩
                    obtain ⟨ab, cb, rfl, hab⟩ := s5.arg
                    have hcb := hab.1
                    have b45 : Below w4.heap.size w4 w5 := (belowN (Below.refl w4.heap.size w4) 1).trans b5
                    have B5 := Lib.hid (B4.out.trans (b45.mono B4.out.size))
                    have HF2 := Lib.hid (HFc.out w5 (HCv.out w5 b45))
                    refine hK _ _ (fun _ => HF2.out) ?_
                    clear hK s5 b5 b45 hab
                    refine wpC_seg false (HF2.out) 25 5 _ _ (by rfl) (by rfl) ?_
                    simp only [List.take_succ_cons, List.take_zero, List.drop_succ_cons, List.drop_zero, Bool.false_eq_true, if_false, Nat.zero_add, Nat.reduceAdd]
                    repeat (go_big_quiet_step (fail))
                    refine wpQuiet_nil ?_
                    refine wpC_nil ?_
                    clear hf hX1 HFc HF1 HF2 f
                    go_wp2_with fail
                    go_ret2
                    exact ⟨rfl, HFin.out _ B5.out⟩
                  case inr.inr.inl =>
                    have HStr := Lib.hid hstr
                    go_wp2_with fail
                    refine wp_region_text ⟨[4], [], 30⟩ (fun w' => ∃ y : X1, w' = f y) (by kernel_rfl) (by kernel_rfl) HF1.out ?_
                    refine wpC_seg false (HF1.out) 4 0 _ _ (by rfl) (by rfl) ?_
                    simp only [List.take_succ_cons, List.take_zero, List.drop_succ_cons, List.drop_zero, Bool.false_eq_true, if_false, Nat.zero_add, Nat.reduceAdd]
                    repeat (go_big_quiet_step (fail))
                    refine wpQuiet_nil ?_
                    refine wpC_loud (by rfl) (by rfl) fun K hK => ?_
                    go_wp2_with fail
                    refine (HBk.out _).mono ?_
                    rintro e w5 ⟨v5, rfl, s5, b5⟩
                    obtain ⟨ab, cb, rfl, hab⟩ := s5.arg
                    have hcb := hab.1
                    have b45 : Below w4.heap.size w4 w5 := (belowN (Below.refl w4.heap.size w4) 1).trans b5
                    have B5 := Lib.hid (B4.out.trans (b45.mono B4.out.size))
                    have HF2 := Lib.hid (HFc.out w5 (HCv.out w5 b45))
                    refine hK _ _ (fun _ => HF2.out) ?_
                    clear hK s5 b5 b45 hab
                    refine wpC_seg false (HF2.out) 25 5 _ _ (by rfl) (by rfl) ?_
                    simp only [List.take_succ_cons, List.take_zero, List.drop_succ_cons, List.drop_zero, Bool.false_eq_true, if_false, Nat.zero_add, Nat.reduceAdd]
                    repeat (go_big_quiet_step (fail))
                    refine wpQuiet_nil ?_
                    refine wpC_nil ?_
                    clear hf hX1 HFc HF1 HF2 f
                    go_wp2_with fail
                    go_roundw
                    case rel =>
                      have h1 : (bs.drop q).take ne = entL x := by
                        have h2 := HStr.out
                        rw [beq_iff_eq, HCst.out, ← HE.out, ByteArray.toList_eq, ByteArray.toList_eq, strOf_data, strOf_data] at h2
                        exact h2.symm
                      exact ⟨k + 1, q + ne, M ++ [x], by omega, by go_num, by go_num, hqn, Lib.hid (HNx.out hqn h1), B5⟩
                    case measure => simp [intOf]; omega
                · have hdx : decide ((65536 : Int) < (x.size : Int)) = true := by simp; omega
                  go_wp2_with fail
                  refine HRd.out.mono ?_
                  rintro e w3 ⟨rfl, b3⟩
                  have B3 := Lib.hid (hB.out.trans (b3.mono hB.out.size))
                  clear b3 HRd
                  go_wp2_with fail
                  go_ret2
                  exact ⟨rfl, HFin.out _ B3.out⟩
            · obtain rfl : k = many := by omega
              by_cases hq : q = s.size - 1
              · exact (HEnd.out k q M hF.out (by omega) hq hm2 rfl hm3).elim
              · have hne : ((q : Int) != (s.size : Int) - 1) = true := by rw [bne_iff_ne]; omega
                go_wp2_with fail
                go_ret2
                exact ⟨rfl, HFin.out _ hB.out⟩
        · have hd6 : ((la : Int) != 255) = true := by rw [bne_iff_ne]; omega
          go_enter Tryd.func11, Tryd.ntmps11
          go_wp2_with fail
          rw [← HW2.out]
          refine HLen.out.mono ?_
          rintro e w' ⟨rfl, rfl⟩
          go_wp2_with fail
          refine HLow.out.mono ?_
          rintro e w' ⟨rfl, rfl⟩
          go_wp2_with fail
          go_ret2
          exact ⟨rfl, HB2.out⟩
      · have hd5 : ((lo : Int) != (s.size : Int)) = true := by rw [bne_iff_ne]; omega
        go_enter Tryd.func11, Tryd.ntmps11
        go_wp2_with fail
        rw [← HW2.out]
        refine HLen.out.mono ?_
        rintro e w' ⟨rfl, rfl⟩
        go_wp2_with fail
        refine HLow.out.mono ?_
        rintro e w' ⟨rfl, rfl⟩
        go_wp2_with fail
        go_ret2
        exact ⟨rfl, HB2.out⟩
end Go.Proofs.YtfbhddllimfdlaaDoor

/- The law PackCuts: the walk. -/
-- SOFT
namespace Go.Proofs.YtfbhddllimfdlaaDoor
set_option linter.unusedVariables false
set_option linter.unusedSimpArgs false
open Go.RowKit
theorem total_cut (L : List ByteArray) (i j : Nat) (h : i ≤ j) : totalT (L.take i ++ L.drop j) ≤ totalT L := by
  unfold totalT
  have h1 : ((L.take i).map ByteArray.size).sum + ((L.drop i).map ByteArray.size).sum = (L.map ByteArray.size).sum := by
    rw [← List.sum_append, ← List.map_append, List.take_append_drop]
  have h2 : ((L.drop j).map ByteArray.size).sum ≤ ((L.drop i).map ByteArray.size).sum := by
    have : L.drop j = (L.drop i).drop (j - i) := by rw [List.drop_drop]; congr 1; omega
    rw [this]
    have := congrArg (fun l => (l.map ByteArray.size).sum) (List.take_append_drop (j - i) (L.drop i))
    simp only [List.map_append, List.sum_append] at this
    omega
  simp only [List.map_append, List.sum_append, List.length_append, List.length_take, List.length_drop]
  omega
theorem fits_cut {L : List ByteArray} (h : fitsT L = true) (i j : Nat) : fitsT (L.take i ++ L.drop j) = true := by
  have h' := of_decide_eq_true h
  refine decide_eq_true fun s hs => ?_
  rcases List.mem_append.1 hs with hs | hs
  · exact h' s (List.mem_of_mem_take hs)
  · exact h' s (List.mem_of_mem_drop hs)
theorem delP_ok {L : List ByteArray} {i m : Nat} (h : i + m ≤ L.length) : delP L i m = (0, L.take i ++ L.drop (i + m)) := by
  unfold delP
  rw [if_neg (by omega), Int.toNat_natCast, Int.toNat_natCast]
theorem delP_far {L : List ByteArray} {n : Int} (h : (L.length : Int) < n) : delP L n 0 = (1, L) := by
  unfold delP; rw [if_pos (by omega)]
theorem delP_many {L : List ByteArray} {n : Int} (h : (L.length : Int) < n) : delP L 0 n = (1, L) := by
  unfold delP; rw [if_pos (by omega)]
def afterT (a : Option Addr) (ca q : Nat) : Option Addr := match a with
  | some ⟨b, o, none⟩ => if ca = q then some ⟨b, o, none⟩ else some ⟨b, o + q, none⟩
  | x => x
end Go.Proofs.YtfbhddllimfdlaaDoor

/- The document's pack: place, Get; what a store of its texts does. -/
namespace Go.Proofs.YtfbhddllimfdlaaDoor
set_option linter.unusedVariables false
set_option linter.unusedSimpArgs false
open Go.RowKit
section
variable {w : World} {r : Nat} {G : Nat → Prop} {L : List ByteArray}
set_option maxHeartbeats 800000 in
set_option maxRecDepth 100000 in
theorem refpPlace (h : RefP w r G L) (a : Int) (ha : -9223372036854775808 ≤ a ∧ a ≤ 9223372036854775807) (hn : L.length ≤ 1048576) :
    Calls Tryd.prog 97 #[.pointer (some ⟨r, 0, none⟩), .int .i64 a] w fun e w' => e = .returned (.tuple #[.int .i64 (placeN L.length a), .bool (placeB L.length a)]) ∧ w = w' := by
  have HL := Lib.hid (refpLen h)
  clear h
  obtain ⟨n, hnn⟩ : ∃ n, L.length = n := ⟨_, rfl⟩
  rw [hnn] at HL hn ⊢
  clear hnn
  have HB := Lib.hid (show placeB n a = (decide (0 ≤ placeN n a) && decide (placeN n a < (n : Int))) from rfl)
  have hpn : placeN n a = if a < 0 then a + n else a := rfl
  obtain ⟨q, hq⟩ : ∃ q, placeN n a = q := ⟨_, rfl⟩
  rw [hq] at HB hpn ⊢
  by_cases h0 : a < 0
  · have g0 : decide (a < 0) = true := decide_eq_true h0
    rw [if_pos h0] at hpn
    subst hpn
    clear hq
    by_cases h1 : 0 ≤ a + (n : Int)
    · have g1 : decide (0 ≤ a + (n : Int)) = true := decide_eq_true h1
      go_enter Tryd.func97, Tryd.ntmps97
      go_wp2_with fail
      refine HL.out.mono ?_
      rintro e w' ⟨rfl, rfl⟩
      go_wp2_with fail
      refine HL.out.mono ?_
      rintro e w' ⟨rfl, rfl⟩
      go_wp2_with fail
      go_ret2
      exact ⟨by rw [HB.out, g1]; first | rfl | simp, rfl⟩
    · have g1 : decide (0 ≤ a + (n : Int)) = false := decide_eq_false h1
      go_enter Tryd.func97, Tryd.ntmps97
      go_wp2_with fail
      refine HL.out.mono ?_
      rintro e w' ⟨rfl, rfl⟩
      go_wp2_with fail
      go_ret2
      exact ⟨by rw [HB.out, g1]; first | rfl | simp, rfl⟩
  · have g0 : decide (a < 0) = false := decide_eq_false h0
    rw [if_neg h0] at hpn
    subst hpn
    clear hq
    have g1 : decide (0 ≤ q) = true := decide_eq_true (by omega)
    go_enter Tryd.func97, Tryd.ntmps97
    go_wp2_with fail
    refine HL.out.mono ?_
    rintro e w' ⟨rfl, rfl⟩
    go_wp2_with fail
    go_ret2
    exact ⟨by rw [HB.out, g1]; first | rfl | simp, rfl⟩
set_option maxHeartbeats 800000 in
set_option maxRecDepth 100000 in
theorem refpGet (h : RefP w r G L) (a : Int) (ha : -9223372036854775808 ≤ a ∧ a ≤ 9223372036854775807) (hn : L.length ≤ 1048576) :
    Calls Tryd.prog 63 #[.pointer (some ⟨r, 0, none⟩), .int .i64 a] w fun e w' => e = .returned (getV L a) ∧ w = w' := by
  have HP := Lib.hid (refpPlace h a ha hn)
  obtain ⟨v, h1, h2, _⟩ := h
  obtain ⟨av, cap, rfl, h3⟩ := texts_of_slice h2
  have c0 := cell_in h1 (i := 0) rfl
  have hlc := h3.1
  unfold getV
  cases hb : placeB L.length a with
  | false =>
    rw [hb] at HP
    clear h1 h2 h3 hb
    go_enter Tryd.func63, Tryd.ntmps63
    go_wp2_with fail
    refine HP.out.mono ?_
    rintro e w' ⟨rfl, rfl⟩
    go_wp2_with fail
    go_ret2
    first | exact ⟨rfl, rfl⟩ | trivial
  | true =>
    rw [hb] at HP
    have hb2 : 0 ≤ placeN L.length a ∧ placeN L.length a < (L.length : Int) := by
      unfold placeB at hb
      simpa using hb
    obtain ⟨k, hk⟩ : ∃ k : Nat, placeN L.length a = k := ⟨(placeN L.length a).toNat, by omega⟩
    rw [hk] at HP hb2 ⊢
    have hkn : k < L.length := by omega
    obtain ⟨b, o, rfl, hc⟩ := h3.2.resolve_left (by omega)
    have hck : w.cell? ⟨b, o + k, none⟩ = some (.string (L.getD k ByteArray.empty)) := hc k hkn
    rw [Int.toNat_natCast]
    obtain ⟨x, hx⟩ : ∃ x, L.getD k ByteArray.empty = x := ⟨_, rfl⟩
    rw [hx] at hck
    simp only [if_true]
    rw [hx]
    obtain ⟨n, hnn⟩ : ∃ n, L.length = n := ⟨_, rfl⟩
    rw [hnn] at c0 hlc hkn
    clear h1 h2 h3 hb hc hx hk hnn hb2
    go_enter Tryd.func63, Tryd.ntmps63
    go_wp2_with fail
    refine HP.out.mono ?_
    rintro e w' ⟨rfl, rfl⟩
    go_wp2_with fail
    go_ret2
    first | exact ⟨rfl, rfl⟩ | trivial
theorem refp_store (h : RefP w r G L) {w3 : World} {B : Nat} {v3 : Value} {M : List ByteArray} (hb : Below w.heap.size w w3) (hB : w.heap.size ≤ B) (s3 : SliceIs w3 B 9 v3 M.length (M.map strV)) :
    (∃ G', RefP (w3.setCell ⟨r, 0, none⟩ v3) r G' M ∧ Fresh w G G') ∧ Chg G w (w3.setCell ⟨r, 0, none⟩ v3) := by
  have hr : r < w.heap.size := h.lt (by obtain ⟨v, _, _, h3⟩ := h; exact (h3 r).2 (.inl rfl))
  have hG : G r := by obtain ⟨v, _, _, h3⟩ := h; exact (h3 r).2 (.inl rfl)
  obtain ⟨v, h1, h2, h3⟩ := h
  have hh3 := (hb.block _ hr).trans h1
  have hc : Chg (fun k => k = r) w3 (w3.setCell ⟨r, 0, none⟩ v3) := Chg.setCell _ _ _ _ rfl
  refine ⟨⟨fun k => k = r ∨ vblock v3 = some k, ⟨v3, setCell_head hh3 0 _, ?_, fun k => Iff.rfl⟩, ?_⟩, ?_⟩
  · refine (s3.mono_any (show r + 1 ≤ B by omega)).chg hc fun k hk he => ?_
    have := (s3.block_lt hk).1
    omega
  · rintro k (rfl | hk)
    · exact .inl hG
    · have := (s3.block_lt hk).1
      exact .inr (by omega)
  · exact (Chg.of_below G hb).trans hc fun k hk _ => by subst hk; exact hG
end
end Go.Proofs.YtfbhddllimfdlaaDoor

/- The document's pack: Insert, Delete. -/
namespace Go.Proofs.YtfbhddllimfdlaaDoor
set_option linter.unusedVariables false
set_option linter.unusedSimpArgs false
open Go.RowKit
theorem pieces_ins {L : List ByteArray} {k : Nat} (x : ByteArray) (hk : k ≤ L.length) : (L.take k ++ [x] ++ L.drop k).length = k + 1 + (L.length - k) := by simp; omega
section
variable {w : World} {r : Nat} {G : Nat → Prop} {L : List ByteArray}
def DoneP (w : World) (r : Nat) (G : Nat → Prop) (o : Int × List ByteArray) (e : Ending) (w' : World) : Prop :=
  e = .returned (.int .i64 o.1) ∧ (∃ G', RefP w' r G' o.2 ∧ Fresh w G G') ∧ Chg G w w'
theorem doneP_same (h : RefP w r G L) {w' : World} (hb : Below w.heap.size w w') {c : Int} {e : Ending} (he : e = .returned (.int .i64 c)) : DoneP w r G (c, L) e w' :=
  ⟨he, ⟨G, h.below hb, fun k hk => .inl hk⟩, Chg.of_below G hb⟩
set_option maxHeartbeats 6400000 in
set_option maxRecDepth 100000 in
theorem refpInsert (h : RefP w r G L) (ok : OKL L) (a : Int) (ha : -9223372036854775808 ≤ a ∧ a ≤ 9223372036854775807) (s : ByteArray) (hs : s.size ≤ 9000000000000000000) :
    Calls Tryd.prog 55 #[.pointer (some ⟨r, 0, none⟩), .int .i64 a, .string s] w fun e w' => DoneP w r G (insP L a s) e w' := by
  have HSame := Lib.hid (show ∀ (w' : World) (c : Int), Below w.heap.size w w' → DoneP w r G (c, L) (.returned (.int .i64 c)) w' from fun w' c hb => doneP_same h hb rfl)
  have HStore := Lib.hid (fun (w3 : World) (B : Nat) (v3 : Value) (M : List ByteArray) hb hB s3 => refp_store (w3 := w3) (B := B) (v3 := v3) (M := M) h hb hB s3)
  have hm := ok.many
  have hz := ok.size
  have HSz := Lib.hid (refpSize h ok.each (by omega) (by omega))
  obtain ⟨v, h1, h2, _⟩ := h
  obtain ⟨av, cap, rfl, h3⟩ := texts_of_slice h2
  have c0 := cell_in h1 (i := 0) rfl
  have hrl := heap_lt h1
  have f0 := frozen_in h1 0
  have hlc := h3.1
  have hshape : (av = none ∧ L.length = 0 ∧ cap = 0) ∨ ∃ g, av = some ⟨g, 0, none⟩ ∧ g < w.heap.size := by
    rcases h2.2 with ⟨e, e2⟩ | ⟨g, c', cur, e, _, hrow, _⟩
    · injection e with e3 e4 e5
      exact .inl ⟨e3, e2, e5⟩
    · injection e with e3 e4 e5
      exact .inr ⟨g, e3, hrow.lt⟩
  have H1 := Lib.hid h1
  have HA := Lib.hid h3
  unfold insP
  obtain ⟨n, hnn⟩ : ∃ n, L.length = n := ⟨_, rfl⟩
  have HN := Lib.hid hnn
  rw [hnn] at hm hlc c0 hshape ⊢
  clear h1 h2 h3 hnn ok
  by_cases b1 : a < 0 ∨ (n : Int) < a
  · rw [if_pos b1]
    by_cases b2 : a < 0
    · have g1 : decide (a < 0) = true := decide_eq_true b2
      clear b1
      go_enter Tryd.func55, Tryd.ntmps55
      go_wp2_with fail
      go_ret
      exact HSame.out _ 1 (Below.refl _ _)
    · have g1 : decide (a < 0) = false := decide_eq_false b2
      have g2 : decide ((n : Int) < a) = true := decide_eq_true (by omega)
      clear b1
      go_enter Tryd.func55, Tryd.ntmps55
      go_wp2_with fail
      go_ret
      exact HSame.out _ 1 (Below.refl _ _)
  · rw [if_neg b1]
    obtain ⟨k, rfl⟩ : ∃ k : Nat, a = k := ⟨a.toNat, by omega⟩
    have hkn : k ≤ n := by omega
    have g1 : decide ((k : Int) < 0) = false := decide_eq_false (by omega)
    have g2 : decide ((n : Int) < (k : Int)) = false := decide_eq_false (by omega)
    rw [Int.toNat_natCast]
    by_cases b3 : 65536 < s.size ∨ 1048576 ≤ n
    · rw [if_pos b3]
      by_cases b4 : 65536 < s.size
      · have g3 : decide ((65536 : Int) < (s.size : Int)) = true := decide_eq_true (by omega)
        clear b3
        go_enter Tryd.func55, Tryd.ntmps55
        go_wp2_with fail
        go_ret
        exact HSame.out _ 3 (Below.refl _ _)
      · have g3 : decide ((65536 : Int) < (s.size : Int)) = false := decide_eq_false (by omega)
        have g4 : decide ((1048576 : Int) ≤ (n : Int)) = true := decide_eq_true (by omega)
        clear b3
        go_enter Tryd.func55, Tryd.ntmps55
        go_wp2_with fail
        go_ret
        exact HSame.out _ 3 (Below.refl _ _)
    · rw [if_neg b3]
      have g3 : decide ((65536 : Int) < (s.size : Int)) = false := decide_eq_false (by omega)
      have g4 : decide ((1048576 : Int) ≤ (n : Int)) = false := decide_eq_false (by omega)
      have HE := Lib.hid (size_doc s (by omega))
      have hel := entL_length s (by omega)
      obtain ⟨z, hzz⟩ : ∃ z, sizeP L = z := ⟨_, rfl⟩
      obtain ⟨es, hes⟩ : ∃ es, (entL s).length = es := ⟨_, rfl⟩
      rw [hes] at HE hel
      rw [hzz] at HSz hz
      rw [hzz, hes]
      clear hzz hes b3
      by_cases b5 : 1073741824 < z + es
      · rw [if_pos b5]
        have g5 : decide ((1073741824 : Int) < (z : Int) + (es : Int)) = true := decide_eq_true (by omega)
        go_enter Tryd.func55, Tryd.ntmps55
        go_wp2_with fail
        refine HSz.out.mono ?_
        rintro e w1 ⟨rfl, b1'⟩
        have B1 := Lib.hid b1'
        clear b1'
        go_wp2_with fail
        refine (HE.out _).mono ?_
        rintro e w2 ⟨rfl, b2'⟩
        have B2 := Lib.hid (B1.out.trans (b2'.mono B1.out.size))
        clear b2'
        go_wp2_with fail
        go_ret
        exact HSame.out _ 3 B2.out
      · rw [if_neg b5]
        have g5 : decide ((1073741824 : Int) < (z : Int) + (es : Int)) = false := decide_eq_false (by omega)
        go_enter Tryd.func55, Tryd.ntmps55
        go_wp2_with fail
        refine HSz.out.mono ?_
        rintro e w1 ⟨rfl, b1'⟩
        have B1 := Lib.hid b1'
        clear b1'
        go_wp2_with fail
        refine (HE.out _).mono ?_
        rintro e w2 ⟨rfl, b2'⟩
        have B2 := Lib.hid (B1.out.trans (b2'.mono B1.out.size))
        clear b2'
        have c2 := (B2.out.cell (p := ⟨r, 0, none⟩) hrl).trans c0
        have hh2 := (B2.out.block _ hrl).trans H1.out
        have f2 := frozen_in hh2 0
        have hsrc1 : k = 0 ∨ ∃ b o, av = some ⟨b, o, none⟩ ∧ ∀ i, i < k → w2.cell? ⟨b, o + i, none⟩ = some (.string ((L.take k).getD i ByteArray.empty)) := by
          rcases HA.out.2 with h | ⟨b, o, e, hc⟩
          · exact .inl (by have := HN.out; omega)
          · refine .inr ⟨b, o, e, fun i hi => ?_⟩
            have h4 : w.cell? ⟨b, o + i, none⟩ = some (.string (L.getD i ByteArray.empty)) := hc i (by have := HN.out; omega)
            rw [B2.out.cell (World.block_lt_of_cell? w _ h4), h4]
            simp [List.getD, List.getElem?_take, hi]
        obtain ⟨v1, w3, r1, s1, b3⟩ := append_texts (a := av) (c := cap) (xs := []) (ys := L.take k) (m := k) (SliceIs.nil w2 w2.heap.size 9) (Nat.le_refl _) (by rw [List.length_take, HN.out]; omega) hsrc1 (by omega)
        rw [Nat.zero_add, List.nil_append] at s1
        obtain ⟨v2, w4, r2, s2, b4⟩ := appendS s1 b3.size s (by omega)
        obtain ⟨a2, ha2⟩ : ∃ a2 : Option Addr, a2 = afterT av cap k := ⟨_, rfl⟩
        have hsrc2 : n - k = 0 ∨ ∃ b o, a2 = some ⟨b, o, none⟩ ∧ ∀ i, i < n - k → w4.cell? ⟨b, o + i, none⟩ = some (.string ((L.drop k).getD i ByteArray.empty)) := by
          rcases HA.out.2 with h | ⟨b, o, e, hc⟩
          · exact .inl (by have := HN.out; omega)
          · by_cases hq : cap = k
            · exact .inl (by omega)
            · refine .inr ⟨b, o + k, by rw [ha2, e]; simp [afterT, hq], fun i hi => ?_⟩
              have h4 : w.cell? ⟨b, o + (k + i), none⟩ = some (.string (L.getD (k + i) ByteArray.empty)) := hc (k + i) (by have := HN.out; omega)
              have h5 : w2.cell? ⟨b, o + (k + i), none⟩ = some (.string (L.getD (k + i) ByteArray.empty)) := by rw [B2.out.cell (World.block_lt_of_cell? w _ h4), h4]
              rw [show o + k + i = o + (k + i) by omega, (b3.trans b4).cell (World.block_lt_of_cell? w2 _ h5), h5]
              simp [List.getD, List.getElem?_drop]
        obtain ⟨v3, w5, r3, s3, b5⟩ := append_texts (a := a2) (c := cap - k) (ys := L.drop k) (m := n - k) s2 (b3.trans b4).size (by rw [List.length_drop, HN.out]) hsrc2 (by omega)
        obtain ⟨a3, c3, rfl, _⟩ := texts_of_slice s3
        have hb25 : Below w2.heap.size w2 w5 := (b3.trans b4).trans b5
        have hh5 := (hb25.block _ (heap_lt hh2)).trans hh2
        have c5 := cell_in hh5 (i := 0) rfl
        have f5 := frozen_in hh5 0
        have c4 := ((b3.trans b4).cell (p := ⟨r, 0, none⟩) (heap_lt hh2)).trans c2
        have c3' := (b3.cell (p := ⟨r, 0, none⟩) (heap_lt hh2)).trans c2
        have hln := pieces_ins (L := L) s (show k ≤ L.length by rw [HN.out]; omega)
        rw [HN.out] at hln
        have HFin := Lib.hid (HStore.out w5 w2.heap.size (.slice a3 (k + 1 + (n - k)) c3) (L.take k ++ [s] ++ L.drop k) (B2.out.trans (hb25.mono B2.out.size)) B2.out.size (s3.lenEq hln.symm))
        have HR1 := Lib.hid r1
        have HR2 := Lib.hid r2
        have HR3 := Lib.hid r3
        clear r1 r2 r3 s1 s2 s3 b3 b4 b5 hb25 hsrc1 hsrc2 hh2 hh5 hln HSz HE
        rcases hshape with ⟨rfl, rfl, rfl⟩ | ⟨g, rfl, hg⟩
        · obtain rfl : k = 0 := by omega
          rw [show afterT none 0 0 = none by simp [afterT]] at ha2
          subst ha2
          go_upto_region 9 with (at_builtin; refine wpList_append_run rfl rfl HR1.out ?_)
          go_upto_region 10 with (at_builtin; refine wpList_append_run rfl rfl HR2.out ?_)
          go_wp2_with (at_builtin; refine wpList_append_run rfl rfl HR3.out ?_)
          go_ret
          exact ⟨rfl, HFin.out⟩
        · by_cases hq : cap = k
          · rw [show afterT (some ⟨g, 0, none⟩) cap k = some ⟨g, 0, none⟩ by simp [afterT, hq]] at ha2
            subst ha2
            go_upto_region 9 with (at_builtin; refine wpList_append_run rfl rfl HR1.out ?_)
            go_upto_region 10 with (at_builtin; refine wpList_append_run rfl rfl HR2.out ?_)
            go_wp2_with (at_builtin; refine wpList_append_run rfl rfl HR3.out ?_)
            go_ret
            exact ⟨rfl, HFin.out⟩
          · rw [show afterT (some ⟨g, 0, none⟩) cap k = some ⟨g, 0 + k, none⟩ by simp [afterT, hq]] at ha2
            rw [Nat.zero_add] at ha2
            subst ha2
            go_upto_region 9 with (at_builtin; refine wpList_append_run rfl rfl HR1.out ?_)
            go_upto_region 10 with (at_builtin; refine wpList_append_run rfl rfl HR2.out ?_)
            go_wp2_with (at_builtin; refine wpList_append_run rfl rfl HR3.out ?_)
            go_ret
            exact ⟨rfl, HFin.out⟩
end
end Go.Proofs.YtfbhddllimfdlaaDoor

/- The document's pack: Delete. -/
namespace Go.Proofs.YtfbhddllimfdlaaDoor
set_option linter.unusedVariables false
set_option linter.unusedSimpArgs false
open Go.RowKit
section
variable {w : World} {r : Nat} {G : Nat → Prop} {L : List ByteArray}
set_option maxHeartbeats 6400000 in
set_option maxRecDepth 100000 in
theorem refpDelete (h : RefP w r G L) (ok : OKL L) (a d : Int) (ha : -9223372036854775808 ≤ a ∧ a ≤ 9223372036854775807) (hd : -9223372036854775808 ≤ d ∧ d ≤ 9223372036854775807) :
    Calls Tryd.prog 59 #[.pointer (some ⟨r, 0, none⟩), .int .i64 a, .int .i64 d] w fun e w' => DoneP w r G (delP L a d) e w' := by
  have HSame := Lib.hid (show ∀ (w' : World) (c : Int), Below w.heap.size w w' → DoneP w r G (c, L) (.returned (.int .i64 c)) w' from fun w' c hb => doneP_same h hb rfl)
  have HStore := Lib.hid (fun (w3 : World) (B : Nat) (v3 : Value) (M : List ByteArray) hb hB s3 => refp_store (w3 := w3) (B := B) (v3 := v3) (M := M) h hb hB s3)
  have hm := ok.many
  have hz := ok.size
  obtain ⟨v, h1, h2, _⟩ := h
  obtain ⟨av, cap, rfl, h3⟩ := texts_of_slice h2
  have c0 := cell_in h1 (i := 0) rfl
  have hrl := heap_lt h1
  have f0 := frozen_in h1 0
  have hlc := h3.1
  have hshape : (av = none ∧ L.length = 0 ∧ cap = 0) ∨ ∃ g, av = some ⟨g, 0, none⟩ ∧ g < w.heap.size := by
    rcases h2.2 with ⟨e, e2⟩ | ⟨g, c', cur, e, _, hrow, _⟩
    · injection e with e3 e4 e5
      exact .inl ⟨e3, e2, e5⟩
    · injection e with e3 e4 e5
      exact .inr ⟨g, e3, hrow.lt⟩
  have H1 := Lib.hid h1
  have HA := Lib.hid h3
  unfold delP
  obtain ⟨n, hnn⟩ : ∃ n, L.length = n := ⟨_, rfl⟩
  have HN := Lib.hid hnn
  rw [hnn] at hm hlc c0 hshape ⊢
  clear h1 h2 h3 hnn ok
  by_cases b1 : a < 0 ∨ (n : Int) < a ∨ d < 0 ∨ (n : Int) - a < d
  · rw [if_pos b1]
    by_cases b2 : a < 0
    case' pos => have g1 : decide (a < 0) = true := decide_eq_true b2
    case' neg =>
      have g1 : decide (a < 0) = false := decide_eq_false b2
      by_cases b3 : (n : Int) < a
      case' pos => have g2 : decide ((n : Int) < a) = true := decide_eq_true b3
      case' neg =>
        have g2 : decide ((n : Int) < a) = false := decide_eq_false b3
        by_cases b4 : d < 0
        case' pos => have g3 : decide (d < 0) = true := decide_eq_true b4
        case' neg =>
          have g3 : decide (d < 0) = false := decide_eq_false b4
          have g4 : decide ((n : Int) - a < d) = true := decide_eq_true (by omega)
    all_goals
      clear b1
      go_enter Tryd.func59, Tryd.ntmps59
      go_wp2_with fail
      go_ret
      exact HSame.out _ 1 (Below.refl _ _)
  · rw [if_neg b1]
    obtain ⟨k, rfl⟩ : ∃ k : Nat, a = k := ⟨a.toNat, by omega⟩
    obtain ⟨m, rfl⟩ : ∃ m : Nat, d = m := ⟨d.toNat, by omega⟩
    have hkn : k + m ≤ n := by omega
    have g1 : decide ((k : Int) < 0) = false := decide_eq_false (by omega)
    have g2 : decide ((n : Int) < (k : Int)) = false := decide_eq_false (by omega)
    have g3 : decide ((m : Int) < 0) = false := decide_eq_false (by omega)
    have g4 : decide ((n : Int) - (k : Int) < (m : Int)) = false := decide_eq_false (by omega)
    rw [Int.toNat_natCast, Int.toNat_natCast]
    clear b1
    have c2 := c0
    have hh2 := H1.out
    have f2 := frozen_in hh2 0
    have hsrc1 : k = 0 ∨ ∃ b o, av = some ⟨b, o, none⟩ ∧ ∀ i, i < k → w.cell? ⟨b, o + i, none⟩ = some (.string ((L.take k).getD i ByteArray.empty)) := by
      rcases HA.out.2 with h | ⟨b, o, e, hc⟩
      · exact .inl (by have := HN.out; omega)
      · refine .inr ⟨b, o, e, fun i hi => ?_⟩
        have h4 : w.cell? ⟨b, o + i, none⟩ = some (.string (L.getD i ByteArray.empty)) := hc i (by have := HN.out; omega)
        rw [h4]
        simp [List.getD, List.getElem?_take, hi]
    obtain ⟨v1, w3, r1, s1, b3⟩ := append_texts (a := av) (c := cap) (xs := []) (ys := L.take k) (m := k) (SliceIs.nil w w.heap.size 9) (Nat.le_refl _) (by rw [List.length_take, HN.out]; omega) hsrc1 (by omega)
    rw [Nat.zero_add, List.nil_append] at s1
    obtain ⟨a2, ha2⟩ : ∃ a2 : Option Addr, a2 = afterT av cap (k + m) := ⟨_, rfl⟩
    have hsrc2 : n - (k + m) = 0 ∨ ∃ b o, a2 = some ⟨b, o, none⟩ ∧ ∀ i, i < n - (k + m) → w3.cell? ⟨b, o + i, none⟩ = some (.string ((L.drop (k + m)).getD i ByteArray.empty)) := by
      rcases HA.out.2 with h | ⟨b, o, e, hc⟩
      · exact .inl (by have := HN.out; omega)
      · by_cases hq : cap = k + m
        · exact .inl (by omega)
        · refine .inr ⟨b, o + (k + m), by rw [ha2, e]; simp [afterT, hq], fun i hi => ?_⟩
          have h4 : w.cell? ⟨b, o + (k + m + i), none⟩ = some (.string (L.getD (k + m + i) ByteArray.empty)) := hc (k + m + i) (by have := HN.out; omega)
          have h5 := h4
          rw [show o + (k + m) + i = o + (k + m + i) by omega, b3.cell (World.block_lt_of_cell? w _ h5), h5]
          simp [List.getD, List.getElem?_drop]
    obtain ⟨v3, w5, r3, s3, b5⟩ := append_texts (a := a2) (c := cap - (k + m)) (ys := L.drop (k + m)) (m := n - (k + m)) s1 b3.size (by rw [List.length_drop, HN.out]) hsrc2 (by omega)
    obtain ⟨a3, c3, rfl, _⟩ := texts_of_slice s3
    have hb25 : Below w.heap.size w w5 := b3.trans b5
    have hh5 := (hb25.block _ (heap_lt hh2)).trans hh2
    have c5 := cell_in hh5 (i := 0) rfl
    have f5 := frozen_in hh5 0
    have c3' := (b3.cell (p := ⟨r, 0, none⟩) (heap_lt hh2)).trans c2
    have hln : (L.take k ++ L.drop (k + m)).length = k + (L.length - (k + m)) := by rw [List.length_append, List.length_take, List.length_drop, HN.out]; omega
    rw [HN.out] at hln
    have HFin := Lib.hid (HStore.out w5 w.heap.size (.slice a3 (k + (n - (k + m))) c3) (L.take k ++ L.drop (k + m)) hb25 (Nat.le_refl _) (s3.lenEq hln.symm))
    have HR1 := Lib.hid r1
    have HR3 := Lib.hid r3
    clear r1 r3 s1 s3 b3 b5 hb25 hsrc1 hsrc2 hh2 hh5 hln
    rcases hshape with ⟨rfl, rfl, rfl⟩ | ⟨g, rfl, hg⟩
    · obtain rfl : k = 0 := by omega
      obtain rfl : m = 0 := by omega
      rw [show afterT none 0 (0 + 0) = none by simp [afterT]] at ha2
      subst ha2
      go_enter Tryd.func59, Tryd.ntmps59
      go_upto_region 7 with (at_builtin; refine wpList_append_run rfl rfl HR1.out ?_)
      go_wp2_with (at_builtin; refine wpList_append_run rfl rfl HR3.out ?_)
      go_ret
      exact ⟨rfl, HFin.out⟩
    · by_cases hq : cap = k + m
      · rw [show afterT (some ⟨g, 0, none⟩) cap (k + m) = some ⟨g, 0, none⟩ by simp [afterT, hq]] at ha2
        subst ha2
        go_enter Tryd.func59, Tryd.ntmps59
        go_upto_region 7 with (at_builtin; refine wpList_append_run rfl rfl HR1.out ?_)
        go_wp2_with (at_builtin; refine wpList_append_run rfl rfl HR3.out ?_)
        go_ret
        exact ⟨rfl, HFin.out⟩
      · rw [show afterT (some ⟨g, 0, none⟩) cap (k + m) = some ⟨g, 0 + (k + m), none⟩ by simp [afterT, hq]] at ha2
        rw [Nat.zero_add] at ha2
        subst ha2
        go_enter Tryd.func59, Tryd.ntmps59
        go_upto_region 7 with (at_builtin; refine wpList_append_run rfl rfl HR1.out ?_)
        go_wp2_with (at_builtin; refine wpList_append_run rfl rfl HR3.out ?_)
        go_ret
        exact ⟨rfl, HFin.out⟩
end
end Go.Proofs.YtfbhddllimfdlaaDoor

/- The document's pack: Set. -/
namespace Go.Proofs.YtfbhddllimfdlaaDoor
set_option linter.unusedVariables false
set_option linter.unusedSimpArgs false
open Go.RowKit
section
variable {w : World} {r : Nat} {G : Nat → Prop} {L : List ByteArray}
set_option maxHeartbeats 6400000 in
set_option maxRecDepth 100000 in
theorem refpSet (h : RefP w r G L) (ok : OKL L) (a : Int) (ha : -9223372036854775808 ≤ a ∧ a ≤ 9223372036854775807) (s : ByteArray) (hs : s.size ≤ 9000000000000000000) :
    Calls Tryd.prog 57 #[.pointer (some ⟨r, 0, none⟩), .int .i64 a, .string s] w fun e w' => DoneP w r G (setP L a s) e w' := by
  have HSame := Lib.hid (show ∀ (w' : World) (c : Int), Below w.heap.size w w' → DoneP w r G (c, L) (.returned (.int .i64 c)) w' from fun w' c hb => doneP_same h hb rfl)
  have hm := ok.many
  have hz := ok.size
  have HSz := Lib.hid (fun w' (hb : Below w.heap.size w w') => refpSize (h.below hb) ok.each (by omega) (by omega))
  have HP := Lib.hid (refpPlace h a ha hm)
  have HO := Lib.hid h
  obtain ⟨v, h1, h2, h3⟩ := h
  have hrl := heap_lt h1
  unfold setP
  cases hb : placeB L.length a with
  | false =>
    rw [if_pos rfl]
    rw [hb] at HP
    clear h1 h2 h3 hb
    go_enter Tryd.func57, Tryd.ntmps57
    go_wp2_with fail
    refine HP.out.mono ?_
    rintro e w' ⟨rfl, rfl⟩
    go_wp2_with fail
    go_ret
    exact HSame.out _ 6 (Below.refl _ _)
  | true =>
    rw [if_neg (by decide)]
    rw [hb] at HP
    have hb2 : 0 ≤ placeN L.length a ∧ placeN L.length a < (L.length : Int) := by
      unfold placeB at hb
      simpa using hb
    obtain ⟨k, hk⟩ : ∃ k : Nat, placeN L.length a = k := ⟨(placeN L.length a).toNat, by omega⟩
    rw [hk] at HP hb2 ⊢
    rw [Int.toNat_natCast]
    have hkn : k < L.length := by omega
    obtain ⟨g, cap, cur, rfl, hg, hrow, hcs, hnc, hcm, htk⟩ := h2.2.resolve_left (by omega)
    have c0 := cell_in h1 (i := 0) rfl
    have hck : w.cell? ⟨g, k, none⟩ = some (.string L[k]) := by
      refine hrow.cell ?_
      have e := congrArg (fun l => l[k]?) htk
      simp only [List.getElem?_take_of_lt hkn, Array.getElem?_toList, List.getElem?_map, List.getElem?_eq_getElem hkn, Option.map_some] at e
      exact e
    have hgd : L.getD k ByteArray.empty = L[k] := by simp [List.getD, hkn]
    rw [hgd]
    have hkc : k < cap := by omega
    have HFin := Lib.hid (show ∀ w', Below w.heap.size w w' → (w'.frozen? ⟨g, k, none⟩ = w.frozen? ⟨g, k, none⟩) ∧ DoneP w r G (0, L.take k ++ [s] ++ L.drop (k + 1)) (.returned (.int .i64 0)) (w'.setCell ⟨g, k, none⟩ (.string s)) from fun w' hb => by
      have hl : (L.take k ++ [s] ++ L.drop (k + 1)).length = L.length := by simp; omega
      have hS : SliceIs (w'.setCell ⟨g, k, none⟩ (.string s)) (r + 1) 9 (.slice (some ⟨g, 0, none⟩) L.length cap) L.length ((L.take k ++ [s] ++ L.drop (k + 1)).map strV) := by
        refine ⟨by rw [List.length_map, hl], .inr ⟨g, cap, cur.setIfInBounds k (.string s), rfl, hg, ?_, by simpa using hcs, hnc, hcm, ?_⟩⟩
        · have hrow' : RowAt w' g 9 cur := hrow.keep (Chg.of_below (fun _ => False) hb) id
          rw [hrow'.setCell]; exact hrow'.setRow (by simp)
        · rw [Array.toList_setIfInBounds, List.take_set, htk, List.set_eq_take_append_cons_drop, if_pos (by simpa using hkn)]
          simp
      refine ⟨hb.frozen hrow.lt, rfl, ⟨G, ⟨.slice (some ⟨g, 0, none⟩) L.length cap, ?_, hS.lenEq hl.symm, h3⟩, fun k hk => .inl hk⟩, ?_⟩
      · have e : (w'.setCell ⟨g, k, none⟩ (.string s)).heap[r]? = w'.heap[r]? := Below.heap_setCell _ _ _ _ (show r ≠ g by omega)
        rw [e, hb.block _ hrl]; exact h1
      · exact (Chg.of_below G hb).trans (Chg.setCell (fun i => i = g) w' ⟨g, k, none⟩ _ rfl) fun i hi _ => by
          rw [hi]; exact (h3 g).2 (.inr rfl))
    have fr := hrow.free (i := k) (by omega)
    have hsm := ok.each _ (List.getElem_mem hkn)
    have hof := offL_succ hkn
    have hol := (offL_lt L (k + 1)).2
    have hol2 := (offL_lt L k).1
    obtain ⟨x, hx⟩ : ∃ x, L[k] = x := ⟨_, rfl⟩
    rw [hx] at hck hsm hof ⊢
    have HX := Lib.hid (size_doc x (by omega))
    obtain ⟨ex, hex⟩ : ∃ ex, (entL x).length = ex := ⟨_, rfl⟩
    rw [hex] at HX hof ⊢
    obtain ⟨z, hzz⟩ : ∃ z, sizeP L = z := ⟨_, rfl⟩
    rw [hzz] at HSz hz hol ⊢
    have hexz : ex ≤ z := by omega
    obtain ⟨n, hnn⟩ : ∃ n, L.length = n := ⟨_, rfl⟩
    rw [hnn] at hnc c0 hm hkn
    have hgl : g < w.heap.size := hrow.lt
    clear h1 h2 h3 hb hx hex hzz hnn hof hol hol2 hrow hcs htk hk ok hb2 hgd HO
    obtain ⟨X1, f, hX1, hf, hF⟩ := classOf (fun y => y.cell? ⟨r, 0, none⟩ = some (.slice (some ⟨g, 0, none⟩) n cap) ∧ y.cell? ⟨g, k, none⟩ = some (.string x)) ⟨c0, hck⟩
    have hf1 := fun x => (hf x).1
    have hf2 := fun x => (hf x).2
    have HF := Lib.hid (fun w' (hb : Below w.heap.size w w') => hF w' ⟨(hb.cell (p := ⟨r, 0, none⟩) hrl).trans c0, (hb.cell (p := ⟨g, k, none⟩) hgl).trans hck⟩)
    clear hF hf
    by_cases b3 : 65536 < s.size
    · rw [if_pos b3]
      have g3 : decide ((65536 : Int) < (s.size : Int)) = true := decide_eq_true (by omega)
      have H0 := Lib.hid (HF.out _ (belowN (Below.refl _ _) 1))
      go_enter Tryd.func57, Tryd.ntmps57
      go_wp2_with fail
      refine HP.out.mono ?_
      rintro e w' ⟨rfl, rfl⟩
      go_wp2_with fail
      refine wp_region_text ⟨[5, 13, 16], [], 20⟩ (fun w' => ∃ y : X1, w' = f y) (by kernel_rfl) (by kernel_rfl) H0.out ?_
      refine wpC_seg false (H0.out) 5 0 _ _ (by rfl) (by rfl) ?_
      simp only [List.take_succ_cons, List.take_zero, List.drop_succ_cons, List.drop_zero, Bool.false_eq_true, if_false, Nat.zero_add, Nat.reduceAdd]
      repeat (go_big_quiet_step (fail))
      refine wpQuiet_nil ?_
      refine wpC_skip (by rfl) (by rfl) (fun _ => H0.out) ?_
      simp only [Act.put, List.setIfInBounds_toArray, List.set_cons_succ, List.set_cons_zero]
      refine wpC_seg false (H0.out) 7 6 _ _ (by rfl) (by rfl) ?_
      simp only [List.take_succ_cons, List.take_zero, List.drop_succ_cons, List.drop_zero, Bool.false_eq_true, if_false, Nat.zero_add, Nat.reduceAdd]
      repeat (go_big_quiet_step (fail))
      refine wpQuiet_nil ?_
      refine wpC_skip (by rfl) (by rfl) (fun _ => H0.out) ?_
      simp only [Act.put, List.setIfInBounds_toArray, List.set_cons_succ, List.set_cons_zero]
      refine wpC_seg false (H0.out) 2 14 _ _ (by rfl) (by rfl) ?_
      simp only [List.take_succ_cons, List.take_zero, List.drop_succ_cons, List.drop_zero, Bool.false_eq_true, if_false, Nat.zero_add, Nat.reduceAdd]
      repeat (go_big_quiet_step (fail))
      refine wpQuiet_nil ?_
      refine wpC_skip (by rfl) (by rfl) (fun _ => H0.out) ?_
      simp only [Act.put, List.setIfInBounds_toArray, List.set_cons_succ, List.set_cons_zero]
      refine wpC_seg false (H0.out) 3 17 _ _ (by rfl) (by rfl) ?_
      simp only [List.take_succ_cons, List.take_zero, List.drop_succ_cons, List.drop_zero, Bool.false_eq_true, if_false, Nat.zero_add, Nat.reduceAdd]
      repeat (go_big_quiet_step (fail))
      refine wpQuiet_nil ?_
      refine wpC_nil ?_
      clear hf1 hf2 hX1 HF H0
      go_wp2_with fail
      go_ret
      exact HSame.out _ 3 (belowN (Below.refl _ _) 1)
    · rw [if_neg b3]
      have g3 : decide ((65536 : Int) < (s.size : Int)) = false := decide_eq_false (by omega)
      have HE := Lib.hid (size_doc s (by omega))
      have hel := entL_length s (by omega)
      obtain ⟨es, hes⟩ : ∃ es, (entL s).length = es := ⟨_, rfl⟩
      rw [hes] at HE hel ⊢
      clear hes
      by_cases b5 : 1073741824 + ex < z + es
      case' pos =>
        rw [if_pos b5]
        have g5 : decide ((1073741824 : Int) < (z : Int) - (ex : Int) + (es : Int)) = true := decide_eq_true (by omega)
      case' neg =>
        rw [if_neg b5]
        have g5 : decide ((1073741824 : Int) < (z : Int) - (ex : Int) + (es : Int)) = false := decide_eq_false (by omega)
      all_goals
        have H0 := Lib.hid (HF.out _ (belowN (Below.refl _ _) 1))
        go_enter Tryd.func57, Tryd.ntmps57
        go_wp2_with fail
        refine HP.out.mono ?_
        rintro e w' ⟨rfl, rfl⟩
        go_wp2_with fail
        refine wp_region_text ⟨[5, 13, 16], [], 20⟩ (fun w' => ∃ y : X1, w' = f y) (by kernel_rfl) (by kernel_rfl) H0.out ?_
        refine wpC_seg false (H0.out) 5 0 _ _ (by rfl) (by rfl) ?_
        simp only [List.take_succ_cons, List.take_zero, List.drop_succ_cons, List.drop_zero, Bool.false_eq_true, if_false, Nat.zero_add, Nat.reduceAdd]
        repeat (go_big_quiet_step (fail))
        refine wpQuiet_nil ?_
        refine wpC_loud (by rfl) (by rfl) fun K hK => ?_
        go_wp2_with fail
        refine (HSz.out _ (belowN (Below.refl _ _) 1)).mono ?_
        rintro e w1 ⟨rfl, q1⟩
        have B1 := Lib.hid ((belowN (Below.refl w.heap.size w) 1).trans q1)
        have H1 := Lib.hid (HF.out _ B1.out)
        refine hK _ _ (fun _ => H1.out) ?_
        clear hK q1
        refine wpC_seg false (H1.out) 7 6 _ _ (by rfl) (by rfl) ?_
        simp only [List.take_succ_cons, List.take_zero, List.drop_succ_cons, List.drop_zero, Bool.false_eq_true, if_false, Nat.zero_add, Nat.reduceAdd]
        repeat (go_big_quiet_step (fail))
        refine wpQuiet_nil ?_
        refine wpC_loud (by rfl) (by rfl) fun K hK => ?_
        go_wp2_with fail
        refine (HX.out _).mono ?_
        rintro e w2 ⟨rfl, q2⟩
        have B2 := Lib.hid (B1.out.trans (q2.mono B1.out.size))
        have H2 := Lib.hid (HF.out _ B2.out)
        refine hK _ _ (fun _ => H2.out) ?_
        clear hK q2
        refine wpC_seg false (H2.out) 2 14 _ _ (by rfl) (by rfl) ?_
        simp only [List.take_succ_cons, List.take_zero, List.drop_succ_cons, List.drop_zero, Bool.false_eq_true, if_false, Nat.zero_add, Nat.reduceAdd]
        repeat (go_big_quiet_step (fail))
        refine wpQuiet_nil ?_
        refine wpC_loud (by rfl) (by rfl) fun K hK => ?_
        go_wp2_with fail
        refine (HE.out _).mono ?_
        rintro e w3 ⟨rfl, q3⟩
        have B3 := Lib.hid (B2.out.trans (q3.mono B2.out.size))
        have H3 := Lib.hid (HF.out _ B3.out)
        refine hK _ _ (fun _ => H3.out) ?_
        clear hK q3
        refine wpC_seg false (H3.out) 3 17 _ _ (by rfl) (by rfl) ?_
        simp only [List.take_succ_cons, List.take_zero, List.drop_succ_cons, List.drop_zero, Bool.false_eq_true, if_false, Nat.zero_add, Nat.reduceAdd]
        repeat (go_big_quiet_step (fail))
        refine wpQuiet_nil ?_
        refine wpC_nil ?_
        have c3 := (B3.out.cell (p := ⟨r, 0, none⟩) hrl).trans c0
        have k3 := (B3.out.cell (p := ⟨g, k, none⟩) hgl).trans hck
        have fr3 := (HFin.out _ B3.out).1.trans fr
        clear hf1 hf2 hX1 HF H0 H1 H2 H3
        go_wp2_with fail
        go_ret
        first
          | exact HSame.out _ 3 B3.out
          | exact (HFin.out _ B3.out).2
end
end Go.Proofs.YtfbhddllimfdlaaDoor

/- The law PackFinds: the walk. -/
-- SOFT
namespace Go.Proofs.YtfbhddllimfdlaaDoor
set_option linter.unusedVariables false
set_option linter.unusedSimpArgs false
open Go.RowKit
theorem findP_of {L : List ByteArray} {s : ByteArray} {a e : Int} (ha : 0 ≤ a) (he : 1 ≤ e) {k : Nat} {v : Int} (h : (v = -1 ∧ L.length ≤ k ∧ ((toldP L).take k).find? (hitP s a e) = none) ∨ ∃ x, v = (x.1 : Nat) ∧ ((toldP L).take k).find? (hitP s a e) = some x) : findP L s a e = v := by
  unfold findP
  rw [if_neg (by omega)]
  rcases h with ⟨rfl, hk, hn⟩ | ⟨x, rfl, hx⟩
  · rw [List.take_of_length_le (by simpa using hk)] at hn
    rw [hn]
  · have : (toldP L).find? (hitP s a e) = some x := by
      rw [← List.take_append_drop k (toldP L), List.find?_append, hx]; rfl
    rw [this]
theorem find_next {L : List ByteArray} {s : ByteArray} {a e : Int} {k : Nat} (hk : k < L.length) (hn : ((toldP L).take k).find? (hitP s a e) = none) :
    ((toldP L).take (k + 1)).find? (hitP s a e) = if hitP s a e (k, L[k]) then some (k, L[k]) else none := by
  rw [toldP_take hk, List.find?_append, hn]
  by_cases h : hitP s a e (k, L[k]) = true
  · simp [h]
  · simp [h]
end Go.Proofs.YtfbhddllimfdlaaDoor

/- The document's pack: Find. -/
namespace Go.Proofs.YtfbhddllimfdlaaDoor
set_option linter.unusedVariables false
set_option linter.unusedSimpArgs false
open Go.RowKit
theorem toldP_mem {L : List ByteArray} {m : Nat} {x : Nat × ByteArray} (h : x ∈ (toldP L).take m) : x.1 < m ∧ x.1 < L.length ∧ x = (x.1, L.getD x.1 ByteArray.empty) ∧ ∀ k, x.1 < k → x ∈ (toldP L).take k := by
  obtain ⟨i, hi, rfl⟩ := List.getElem_of_mem h
  have hi' : i < m ∧ i < L.length := by rw [List.length_take, toldP_length] at hi; omega
  have e : ((toldP L).take m)[i] = (i, L.getD i ByteArray.empty) := by
    rw [List.getElem_take]; simp [toldP]
  rw [e]
  refine ⟨hi'.1, hi'.2, rfl, fun k hk => ?_⟩
  have h2 : i < ((toldP L).take k).length := by rw [List.length_take, toldP_length]; simp at hk; omega
  have e2 : ((toldP L).take k)[i] = (i, L.getD i ByteArray.empty) := by
    rw [List.getElem_take]; simp [toldP]
  rw [← e2]
  exact List.getElem_mem h2
theorem hitP_at {s : ByteArray} {a e : Int} {i : Nat} {x : ByteArray} (ha : 0 ≤ a) (hi : i ≤ 1048576) : hitP s a e (i, x) = (decide (a ≤ (i : Int)) && (decide (((i : Int) - a).tmod e = 0) && (x.toList == s.toList))) := by
  unfold hitP
  by_cases h : a ≤ (i : Int)
  · have : wrap64 ((i : Int) - a) = (i : Int) - a := by unfold wrap64; omega
    simp only [this]
    congr 2
  · simp [h]
theorem find_jump {L : List ByteArray} {s : ByteArray} {a e : Int} {k k' : Nat} (ha : 0 ≤ a) (he : 1 ≤ e) (hka : a ≤ (k : Int)) (hk' : (k' : Int) = k + e) (hmod : ((k : Int) - a) % e = 0) (hL : L.length ≤ 1048576)
    (hn : ((toldP L).take k).find? (hitP s a e) = none) (hx : (L.getD k ByteArray.empty).toList ≠ s.toList) : ((toldP L).take k').find? (hitP s a e) = none := by
  rw [List.find?_eq_none] at hn ⊢
  intro x hm
  obtain ⟨h1, h2, h3, h4⟩ := toldP_mem hm
  obtain ⟨i, y⟩ := x
  simp only at h1 h2 h3 h4
  rcases Nat.lt_trichotomy i k with h | h | h
  · exact hn _ (h4 k h)
  · subst h
    rw [h3, hitP_at ha (by omega), show ((L.getD i ByteArray.empty).toList == s.toList) = false by rw [beq_eq_false_iff_ne]; exact hx]
    simp
  · rw [h3, hitP_at ha (by omega)]
    have h5 : ((i : Int) - a).tmod e ≠ 0 := by
      rw [Int.tmod_eq_emod_of_nonneg (by omega), show (i : Int) - a = ((k : Int) - a) + ((i : Int) - k) by omega, Int.add_emod, hmod, Int.zero_add, Int.emod_emod, Int.emod_eq_of_lt (by omega) (by omega)]
      omega
    simp [h5]
theorem find_here {L : List ByteArray} {s : ByteArray} {a e : Int} {k : Nat} (ha : 0 ≤ a) (hk : k < L.length) (hL : L.length ≤ 1048576) (hka : a ≤ (k : Int)) (hmod : ((k : Int) - a) % e = 0) (hn : ((toldP L).take k).find? (hitP s a e) = none) (hx : L[k].toList = s.toList) :
    ((toldP L).take (k + 1)).find? (hitP s a e) = some (k, L[k]) := by
  rw [find_next hk hn, if_pos]
  rw [hitP_at ha (by omega)]
  have h5 : ((k : Int) - a).tmod e = 0 := by rw [Int.tmod_eq_emod_of_nonneg (by omega)]; exact hmod
  simp [hka, h5, hx]
section
variable {w : World} {r : Nat} {G : Nat → Prop} {L : List ByteArray}
set_option maxHeartbeats 3200000 in
set_option maxRecDepth 100000 in
theorem refpFind (h : RefP w r G L) (hL : L.length ≤ 1048576) (s : ByteArray) (a e : Int) (ha : -9223372036854775808 ≤ a ∧ a ≤ 9223372036854775807) (he : -9223372036854775808 ≤ e ∧ e ≤ 9223372036854775807) :
    Calls Tryd.prog 61 #[.pointer (some ⟨r, 0, none⟩), .string s, .int .i64 a, .int .i64 e] w fun en w' => en = .returned (.int .i64 (findP L s a e)) ∧ w = w' := by
  obtain ⟨v, h1, h2, _⟩ := h
  obtain ⟨av, cap, rfl, h3⟩ := texts_of_slice h2
  have c0 := cell_in h1 (i := 0) rfl
  have hlc := h3.1
  have HA := Lib.hid h3
  obtain ⟨n, hnn⟩ : ∃ n, L.length = n := ⟨_, rfl⟩
  have HN := Lib.hid hnn
  rw [hnn] at hlc c0 hL
  obtain ⟨R, hR⟩ : ∃ R, findP L s a e = R := ⟨_, rfl⟩
  rw [hR]
  have HRs := Lib.hid hR
  clear h1 h2 h3 hnn hR
  by_cases b1 : a < 0
  · have g1 : decide (a < 0) = true := decide_eq_true b1
    obtain rfl : R = -1 := by rw [← HRs.out]; unfold findP; rw [if_pos (.inl b1)]
    go_enter Tryd.func61, Tryd.ntmps61
    go_wp2_with fail
    go_ret
    first | exact ⟨rfl, rfl⟩ | trivial
  · have g1 : decide (a < 0) = false := decide_eq_false b1
    by_cases b2 : e < 1
    · have g2 : decide (e < 1) = true := decide_eq_true b2
      obtain rfl : R = -1 := by rw [← HRs.out]; unfold findP; rw [if_pos (.inr b2)]
      go_enter Tryd.func61, Tryd.ntmps61
      go_wp2_with fail
      go_ret
      first | exact ⟨rfl, rfl⟩ | trivial
    · have g2 : decide (e < 1) = false := decide_eq_false b2
      obtain ⟨ka, rfl⟩ : ∃ ka : Nat, a = ka := ⟨a.toNat, by omega⟩
      obtain ⟨ev, rfl⟩ : ∃ ev : Nat, e = ev := ⟨e.toNat, by omega⟩
      have hka : (ka : Int) ≤ 9223372036854775807 := ha.2
      have hev : 1 ≤ ev := by omega
      have hkb : ka < 9223372036854775808 := by omega
      clear ha he b1 b2
      go_enter Tryd.func61, Tryd.ntmps61
      go_wp2_with fail
      go_loop [9] (fun i => ∃ k : Nat, i = .int .i64 k ∧ k < 9223372036854775808 ∧ ka ≤ k ∧ Hid (((k : Int) - ka) % (ev : Int) = 0) ∧ Hid (((toldP L).take k).find? (hitP s ka ev) = none)) (fun i => n - (intOf i).toNat)
      case atStart => exact ⟨ka, rfl, hkb, Nat.le_refl _, Lib.hid (by simp), Lib.hid (by
        rw [List.find?_eq_none]
        intro x hm
        obtain ⟨h1, h2, h3, h4⟩ := toldP_mem hm
        obtain ⟨i, y⟩ := x
        simp only at h1
        unfold hitP
        simp only
        rw [decide_eq_false (by omega)]
        simp)⟩
      case round =>
        obtain ⟨k, rfl, hk63, hkk, hM, hF⟩ := hrel
        by_cases hlt : k < n
        · have hkl : k < L.length := by rw [HN.out]; exact hlt
          obtain ⟨b, o, rfl, hc⟩ := HA.out.2.resolve_left (by rw [HN.out]; omega)
          have hck : w.cell? ⟨b, o + k, none⟩ = some (.string (L.getD k ByteArray.empty)) := hc k (by rw [HN.out]; exact hlt)
          have hgd : L.getD k ByteArray.empty = L[k] := by simp [List.getD, hkl]
          by_cases hx : L[k].toList = s.toList
          · have hR : R = k := by
              rw [← HRs.out]
              exact findP_of (by omega) (by omega) (k := k + 1) (.inr ⟨_, rfl, find_here (by omega) hkl (by rw [HN.out]; omega) (by omega) hM.out hF.out hx⟩)
            subst hR
            have hxb : (L[k].toList == s.toList) = true := by rw [hx]; exact beq_self_eq_true _
            rw [hgd] at hck
            obtain ⟨y, hy⟩ : ∃ y, L[k] = y := ⟨_, rfl⟩
            rw [hy] at hck hxb
            clear hc hgd hx hy HRs
            go_wp2_with fail
            go_ret
            first | exact ⟨rfl, rfl⟩ | trivial
          · have hxb : (L[k].toList == s.toList) = false := by rw [beq_eq_false_iff_ne]; exact hx
            have HJ := Lib.hid (fun (k' : Nat) (h : (k' : Int) = (k : Int) + (ev : Int)) => find_jump (L := L) (s := s) (k' := k') (by omega) (by omega) (by omega) h hM.out (by rw [HN.out]; omega) hF.out (by rw [hgd]; exact hx))
            rw [hgd] at hck
            obtain ⟨y, hy⟩ : ∃ y, L[k] = y := ⟨_, rfl⟩
            rw [hy] at hck hxb
            clear hc hgd hx hy
            by_cases hb : n ≤ ev
            · have g3 : decide ((n : Int) ≤ (ev : Int)) = true := decide_eq_true (by omega)
              have hR : R = -1 := by
                rw [← HRs.out]
                exact findP_of (by omega) (by omega) (k := k + ev) (.inl ⟨rfl, by rw [HN.out]; omega, HJ.out (k + ev) (by omega)⟩)
              subst hR
              go_wp2_with fail
              go_ret
              first | exact ⟨rfl, rfl⟩ | trivial
            · have g3 : decide ((n : Int) ≤ (ev : Int)) = false := decide_eq_false (by omega)
              have HM2 := Lib.hid (show (((k + ev : Nat) : Int) - ka) % (ev : Int) = 0 by
                rw [show ((k + ev : Nat) : Int) - ka = ((k : Int) - ka) + ev by omega, Int.add_emod, hM.out, Int.emod_self]; simp)
              have HF2 := Lib.hid (HJ.out (k + ev) (by omega))
              go_wp2_with fail
              go_round
              case rel => exact ⟨k + ev, by go_num, by omega, by omega, HM2, HF2⟩
              case measure => simp [intOf]; omega
        · have hR : R = -1 := by
            rw [← HRs.out]
            exact findP_of (by omega) (by omega) (k := k) (.inl ⟨rfl, by rw [HN.out]; omega, hF.out⟩)
          subst hR
          go_wp2_with fail
          go_ret
          first | exact ⟨rfl, rfl⟩ | trivial
end
end Go.Proofs.YtfbhddllimfdlaaDoor
