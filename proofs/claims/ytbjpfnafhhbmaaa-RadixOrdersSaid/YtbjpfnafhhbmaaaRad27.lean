/- radix: Put; what a deletion leaves. -/
import Derived.Test.YtbjpfnafhhbmaaaRad26
namespace Go.Proofs.Ytbjpfnafhhbmaaa.Rad
open Go.Proofs.Ytbjpfnafhhbmaaa
set_option linter.unusedVariables false
set_option linter.unusedSimpArgs false
open Go.RowKit RT
theorem radPut {w : World} {p : Nat} {G : Nat → Prop} {T : Option RT} {n : Nat} (h : TreeF w p G T n) {ms seq : Nat} (h1 : ms < 18446744073709551616) (h2 : seq < 18446744073709551616) (v : VT) (hn : n ≤ 1000000000) :
    Calls Try.prog 10 #[ptrV p, .agg #[.int .u64 ms, .int .u64 seq], vC v] w fun e w' => e = .returned (.bool (lookO T (idBytes ms seq)).isNone) ∧
      ∃ G', TreeF w' p G' (putO T (idBytes ms seq) v) (if (lookO T (idBytes ms seq)).isNone then n + 1 else n) ∧ Fresh w G G' ∧ Chg G w w' := by
  cases hl : lookO T (idBytes ms seq) with
  | some v0 => exact radPut_old h h1 h2 v (by rw [hl]; simp)
  | none =>
    cases T with
    | none => exact radPut_first h h1 h2 v hn
    | some t => exact radPut_new h h1 h2 v hn hl
theorem Way.up {w : World} {ro : Nat → Prop} {p n : Nat} {t : RT} {x : Nat} {own : List Nat} {s : List UInt8} {u : RT} {z : Nat} {oz : List Nat} {s' : List UInt8} {ab : List Nat} {c d : Nat} {K : RT → RT} (h : Way w ro p n t x own s u z oz s' ab c d K) (hab : ab ≠ []) :
    ∃ b v k y o ab' c' d' K', Way w ro p n t x own s (.mk b v k) y o (b ++ s') ab' c' d' K' ∧ KidAt w ro b v k y o d z oz c ∧ k[d]? = some u ∧ s' ≠ [] ∧ u.first = s'.getD 0 0 ∧ ab = ab' ++ [y] := by
  cases h with
  | here _ => exact absurd rfl hab
  | down h hk hu hs hf => exact ⟨_, _, _, _, _, _, _, _, _, h, hk, hu, hs, hf, rfl⟩
theorem Way.roots {w : World} {ro : Nat → Prop} {p n : Nat} {t : RT} {x : Nat} {own : List Nat} {s : List UInt8} {u : RT} {z : Nat} {oz : List Nat} {s' : List UInt8} {ab : List Nat} {c d : Nat} {K : RT → RT} (h : Way w ro p n t x own s u z oz s' ab c d K) (hab : ab = []) : u = t := by
  cases h with
  | here _ => rfl
  | down _ _ _ _ _ => simp at hab
theorem place_at {fs : List UInt8} {c : UInt8} {r i : Nat} (h : PlaceB fs c r) (hr : fs.Pairwise (· < ·)) (hi : i < fs.length) (hc : fs.getD i 0 = c) : r = i := by
  have hg : ∀ j (hj : j < fs.length), fs.getD j 0 = fs[j] := fun j hj => by simp [List.getD, hj]
  rcases Nat.lt_trichotomy r i with h1 | h1 | h1
  · have h2 := h.2.2 r (Nat.le_refl _) (by omega)
    have h3 := List.pairwise_iff_getElem.1 hr r i (by omega) hi h1
    rw [hg r (by omega), ← hc, hg i hi, UInt8.le_iff_toNat_le] at h2
    rw [UInt8.lt_iff_toNat_lt] at h3
    omega
  · exact h1
  · have h2 := h.2.1 i h1
    rw [hc, UInt8.lt_iff_toNat_lt] at h2
    omega
/-- A row that is taken apart at one of its places. -/
theorem run_erase {w : World} {e : TypeId} {g n cap i : Nat} {xs : List Value} {t ty : TypeId} {i0 : TypeInfo} {z : Value} {bytes : Nat} (ht : Try.prog.underlying t = some (.slice e)) (hi : Try.prog.info? e = some i0) (hz : i0.zero = some z)
    (hsize : i0.size = 1) (hby : i0.bytes = bytes) (hzs : z.cells.size = 1) (h : SliceIs w 0 e (.slice (some ⟨g, 0, none⟩) n cap) n xs) (hin : i < n) (h1 : ∀ u ∈ xs, u.oneCell' = true) (hn : n ≤ 100000000) (hb : bytes ≤ 1000) :
    ∃ v' w', (Builtin.append_ #[t, t] ty #[.slice (some ⟨g, 0, none⟩) i cap, .slice (if cap = i + 1 then some ⟨g, 0, none⟩ else some ⟨g, i + 1, none⟩) (n - (i + 1)) (cap - (i + 1))]).run Try.prog w = .ok v' w' ∧
      SliceIs w' 0 e v' (n - 1) (xs.eraseIdx i) ∧ Chg (fun k => k = g) w w' ∧ (vblock v' = some g ∨ ∃ k, vblock v' = some k ∧ w.heap.size ≤ k) := by
  obtain ⟨hxl, hx⟩ := h
  obtain ⟨g', cap', cur, he, _, hrow, hcs, hnc, hcm, htk⟩ := hx.resolve_left (by simp)
  cases he
  have hnews : ∀ (A : Addr), A = ⟨g, i + 1, none⟩ → ∀ j u, (xs.drop (i + 1))[j]? = some u → w.cell? (A.add j) = some u := by
    rintro A rfl j u hu
    rw [Addr.add_lit]
    refine hrow.cell ?_
    rw [List.getElem?_drop] at hu
    have hjl : i + 1 + j < n := by have := (List.getElem?_eq_some_iff.1 hu).1; omega
    rw [← Array.getElem?_toList]
    have e := congrArg (fun l => l[i + 1 + j]?) htk
    simp only [List.getElem?_take_of_lt hjl] at e
    rw [e]; exact hu
  have hbb : (i + (n - (i + 1))) * bytes ≤ 140737488355328 := by
    have := Nat.mul_le_mul (show i + (n - (i + 1)) ≤ 100000000 by omega) hb
    omega
  have fin : ∀ A news, news = xs.drop (i + 1) → (∀ j u, news[j]? = some u → w.cell? (A.add j) = some u) → ∃ v' w', (Builtin.append_ #[t, t] ty #[.slice (some ⟨g, 0, none⟩) i cap, .slice (some A) (n - (i + 1)) (cap - (i + 1))]).run Try.prog w = .ok v' w' ∧
      SliceIs w' 0 e v' (n - 1) (xs.eraseIdx i) ∧ Chg (fun k => k = g) w w' ∧ (vblock v' = some g ∨ ∃ k, vblock v' = some k ∧ w.heap.size ≤ k) := by
    intro A news hnw hcl
    obtain ⟨v', w', hr, g', cap', cur', rfl, q1, q2, q3, q4, q5, q6, q7⟩ := run_append_row (P := Try.prog) w t ty e i0 z 1 bytes ht hi hz hsize hby hzs g i cap cur hrow (by omega) (by omega) hcm A (n - (i + 1)) (cap - (i + 1)) news (by rw [hnw, List.length_drop]; omega) hcl (fun u hu => h1 u (List.mem_of_mem_drop (by rw [← hnw]; exact hu))) (by unfold maxLen; omega) hbb
    have en : i + (n - (i + 1)) = n - 1 := by omega
    refine ⟨_, w', hr, ⟨by rw [List.length_eraseIdx, if_pos (by omega), hxl], .inr ⟨g', cap', cur', by rw [en], Nat.zero_le _, q1, by omega, by omega, q4, ?_⟩⟩, q7.mono fun k hk _ => by simpa using hk, q6.imp id fun h => ⟨g', rfl, h⟩⟩
    rw [en, Nat.mul_one, Nat.mul_one] at q5
    rw [q5, hnw, List.eraseIdx_eq_take_drop_succ, ← htk, List.take_take, Nat.min_eq_left (by omega)]
  split
  · have hd : xs.drop (i + 1) = [] := List.eq_nil_of_length_eq_zero (by rw [List.length_drop]; omega)
    exact fin _ [] hd.symm (by simp)
  · exact fin _ _ rfl (hnews _ rfl)
theorem below_of_chg {w w' : World} {S : Nat → Prop} (h : Chg S w w') (hs : ∀ k, ¬ S k) : Below w.heap.size w w' := belowChg (Below.refl _ _) h (Nat.le_refl _) fun k hk => absurd hk (hs k)
/-- Bytes behind bytes that have no room. -/
theorem run_append_fresh {w : World} {a a2 : Option Addr} {xs ys : List UInt8} {n m c c2 : Nat} (hx : BytesIn w a xs c) (hy : BytesIn w a2 ys c2) (hn : xs.length = n) (hm : ys.length = m) (h0 : 0 < m) (hle : n + m ≤ 100000000) :
    ∃ v' w', (Builtin.append_ #[42, 42] 42 #[.slice a n n, .slice a2 m c2]).run Try.prog w = .ok v' w' ∧ SliceIs w' w.heap.size 5 v' (n + m) ((xs ++ ys).map u8v) ∧ Below w.heap.size w w' := by
  obtain ⟨i0, g1, g2, g3, g4⟩ := info_parts info_u8
  obtain ⟨b2, o2, rfl, hc2⟩ := hy.2.resolve_left (by omega)
  have hnews : ∀ j u, (ys.map u8v)[j]? = some u → w.cell? ((⟨b2, o2, none⟩ : Addr).add j) = some u := fun j u hu => by
    rw [List.getElem?_map] at hu
    have hj : j < ys.length := by
      rcases Nat.lt_or_ge j ys.length with h | h
      · exact h
      · rw [List.getElem?_eq_none h] at hu; cases hu
    rw [Addr.add_lit, hc2 j hj]
    rw [List.getElem?_eq_getElem hj] at hu
    simp only [Option.map_some] at hu
    rw [← hu]; simp [List.getD, hj]
  have fin : ∀ (cap : Nat) v' w', Appended w 5 1 none (xs.map u8v) (ys.map u8v) (n + m) v' w' → SliceIs w' w.heap.size 5 v' (n + m) ((xs ++ ys).map u8v) ∧ Below w.heap.size w w' := by
    rintro _ v' w' ⟨g', cap', cur', rfl, q1, q2, q3, q4, q5, q6, q7⟩
    refine ⟨⟨by simp; omega, .inr ⟨g', cap', cur', rfl, ?_, q1, by omega, q3, q4, ?_⟩⟩, below_of_chg q7 fun k hk => by cases hk⟩
    · rcases q6 with h | h
      · cases h
      · exact h
    · rw [List.map_append, ← q5, Nat.mul_one]
  cases a with
  | none =>
    have hn0 : n = 0 := by
      rcases hx.2 with h | ⟨_, _, h, _⟩
      · omega
      · cases h
    subst hn0
    have hx0 : xs = [] := List.eq_nil_of_length_eq_zero hn
    have hr := run_append_nil (P := Try.prog) w 42 42 5 i0 (.int .u8 0) Try.underlying42 g1 g2 ⟨b2, o2, none⟩ m c2 (ys.map u8v) (by simp [hm, g3]) hnews h0 (by omega) (by rw [g4]; omega)
    have := append_grown w none 5 1 (.int .u8 0) rfl [] (ys.map u8v) m 0 (by simp [hm]) (by unfold maxLen; omega)
    simp only [List.append_nil, List.nil_append, Array.empty_append] at this
    refine ⟨_, _, hr, fin 0 _ _ ?_⟩
    rw [hx0, Nat.zero_add]; exact this
  | some A =>
    have holds : ∀ j u, (xs.map u8v)[j]? = some u → w.cell? (A.add j) = some u := fun j u hu => by
      rw [List.getElem?_map] at hu
      have hj : j < xs.length := by
        rcases Nat.lt_or_ge j xs.length with h | h
        · exact h
        · rw [List.getElem?_eq_none h] at hu; cases hu
      obtain ⟨b1, o1, e, hc1⟩ := hx.2.resolve_left (by omega)
      cases e
      rw [Addr.add_lit, hc1 j hj]
      rw [List.getElem?_eq_getElem hj] at hu
      simp only [Option.map_some] at hu
      rw [← hu]; simp [List.getD, hj]
    have hfits : Builtin.nextslicecap (n + m) n * i0.bytes ≤ 281474976710656 := growslice_fits (by omega) (by rw [g4]; omega)
    have hr := run_append_grow (P := Try.prog) w 42 42 5 i0 (.int .u8 0) Try.underlying42 g1 g2 A n n (xs.map u8v) (by simp [hn, g3]) holds ⟨b2, o2, none⟩ m c2 (ys.map u8v) (by simp [hm, g3]) hnews (by omega) (by omega) hfits
    have := append_grown w none 5 1 (.int .u8 0) rfl (xs.map u8v) (ys.map u8v) (n + m) n (by simp [hm, hn]) (by unfold maxLen; omega)
    exact ⟨_, _, hr, fin 0 _ _ this⟩
end Go.Proofs.Ytbjpfnafhhbmaaa.Rad
