/- The layer ints in plain words: a rising list; and its objects with their blocks. -/
import Derived.Test.YtncdckakcmoejaaInts6
namespace Go.Proofs.Ytncdckakcmoejaa
set_option linter.unusedVariables false
set_option linter.unusedSimpArgs false
open Go.RowKit
/-- A number into a rising list. -/
def ins : List Int → Int → List Int
  | [], x => [x]
  | y :: l, x => if x < y then x :: y :: l else if x = y then y :: l else y :: ins l x
theorem mem_ins (x y : Int) : ∀ L : List Int, y ∈ ins L x ↔ y = x ∨ y ∈ L
  | [] => by simp [ins]
  | z :: l => by
    unfold ins
    split
    · simp
    · split
      · rename_i h; subst h; simp
      · simp only [List.mem_cons, mem_ins x y l]
        constructor
        · rintro (h | h | h) <;> simp [h]
        · rintro (h | h | h) <;> simp [h]
theorem ins_mem {x : Int} : ∀ {L : List Int}, L.Pairwise (· < ·) → x ∈ L → ins L x = L
  | [], _, h => by cases h
  | z :: l, hp, h => by
    unfold ins
    rw [List.pairwise_cons] at hp
    rcases List.mem_cons.1 h with rfl | h
    · simp
    · have := hp.1 x h
      rw [if_neg (by omega), if_neg (by omega), ins_mem hp.2 h]
theorem ins_sorted (x : Int) : ∀ {L : List Int}, L.Pairwise (· < ·) → (ins L x).Pairwise (· < ·)
  | [], _ => by simp [ins]
  | z :: l, hp => by
    have hp' := List.pairwise_cons.1 hp
    unfold ins
    split
    · rw [List.pairwise_cons]
      refine ⟨fun a ha => ?_, hp⟩
      rcases List.mem_cons.1 ha with rfl | ha
      · assumption
      · have := hp'.1 a ha; omega
    · split
      · exact hp
      · rw [List.pairwise_cons]
        refine ⟨fun a ha => ?_, ins_sorted x hp'.2⟩
        rcases (mem_ins x a l).1 ha with rfl | ha
        · omega
        · exact hp'.1 a ha
theorem ins_length (x : Int) : ∀ {L : List Int}, L.Pairwise (· < ·) → (ins L x).length = if x ∈ L then L.length else L.length + 1
  | [], _ => by simp [ins]
  | z :: l, hp => by
    have hp' := List.pairwise_cons.1 hp
    by_cases h : x ∈ z :: l
    · rw [ins_mem hp h, if_pos h]
    · rw [if_neg h]
      have h' : x ≠ z ∧ x ∉ l := by simpa using h
      unfold ins
      split
      · simp
      · rw [if_neg h'.1]
        have := ins_length x hp'.2
        rw [if_neg h'.2] at this
        simp [this]
theorem ins_place {x : Int} : ∀ {L : List Int} {r : Nat}, L.Pairwise (· < ·) → x ∉ L → PlaceOf L x r → insAt L r x = ins L x
  | [], r, _, _, h => by
    obtain rfl : r = 0 := by have := h.1; simpa using this
    rfl
  | z :: l, 0, hp, hx, h => by
    have := h.2.2 0 (by omega) (by simp)
    have hne : x ≠ z := fun e => hx (by simp [e])
    simp [List.getD] at this
    unfold ins
    rw [if_pos (by omega)]
    simp [insAt]
  | z :: l, r + 1, hp, hx, h => by
    have hp' := List.pairwise_cons.1 hp
    have h0 := h.2.1 0 (by omega)
    simp [List.getD] at h0
    have hx' : x ∉ l := fun e => hx (by simp [e])
    have ih := ins_place (r := r) hp'.2 hx' ⟨by have := h.1; simpa using this, fun k hk => by simpa using h.2.1 (k + 1) (by omega), fun k h1 h2 => by simpa using h.2.2 (k + 1) (by omega) (by simpa using h2)⟩
    unfold ins
    rw [if_neg (by omega), if_neg (by omega), ← ih]
    simp [insAt]
/-- A number out of a list. -/
def del (L : List Int) (x : Int) : List Int := L.filter (· ≠ x)
theorem mem_del (L : List Int) (x y : Int) : y ∈ del L x ↔ y ∈ L ∧ y ≠ x := by simp [del]
theorem del_sorted {L : List Int} (x : Int) (h : L.Pairwise (· < ·)) : (del L x).Pairwise (· < ·) := h.filter _
theorem del_not {L : List Int} {x : Int} (h : x ∉ L) : del L x = L := by
  unfold del
  rw [List.filter_eq_self]
  intro a ha
  simpa using fun (e : a = x) => h (e ▸ ha)
theorem del_place {x : Int} : ∀ {L : List Int} {r : Nat}, L.Pairwise (· < ·) → r < L.length → L.getD r 0 = x → delAt L r = del L x
  | [], r, _, h, _ => by simp at h
  | z :: l, 0, hp, h, hx => by
    have hp' := List.pairwise_cons.1 hp
    simp [List.getD] at hx
    subst hx
    have : z ∉ l := fun hm => by have := hp'.1 z hm; omega
    have h2 := del_not this
    unfold del at h2 ⊢
    simpa [delAt] using h2.symm
  | z :: l, r + 1, hp, h, hx => by
    have hp' := List.pairwise_cons.1 hp
    have hx' : l.getD r 0 = x := by simpa [List.getD] using hx
    have ih := del_place (r := r) hp'.2 (by simpa using h) hx'
    have hmem : x ∈ l := by
      have hr : r < l.length := by simpa using h
      simp [List.getD, hr] at hx'
      rw [← hx']; exact List.getElem_mem hr
    have hz : z ≠ x := fun e => by have := hp'.1 x hmem; omega
    unfold del at ih ⊢
    rw [List.filter_cons_of_pos (by simpa using hz), ← ih]
    simp [delAt]

/-- A set of whole numbers in the blocks F. -/
def IntsF (w : World) (p : Nat) (F : Nat → Prop) (L : List Int) (W : Nat) : Prop :=
  ∃ g cap cur, IntsRow w p g cap cur L W ∧ L.Pairwise (· < ·) ∧ ∀ k, F k ↔ k = p ∨ k = g
/-- The blocks behind a step: the old ones or new ones. -/
def Fresh (w : World) (F F' : Nat → Prop) : Prop := ∀ k, F' k → F k ∨ w.heap.size ≤ k
section
variable {w : World} {p : Nat} {F : Nat → Prop} {L : List Int} {W : Nat}
theorem IntsF.lt (h : IntsF w p F L W) {k : Nat} (hk : F k) : k < w.heap.size := by
  obtain ⟨g, cap, cur, h1, _, h2⟩ := h
  rcases (h2 k).1 hk with rfl | rfl
  · exact heap_lt h1.head
  · exact h1.row.lt
theorem IntsF.chg (h : IntsF w p F L W) {S : Nat → Prop} {w' : World} (hc : Chg S w w') (hd : ∀ k, F k → ¬ S k) : IntsF w' p F L W := by
  obtain ⟨g, cap, cur, h1, h3, h2⟩ := h
  exact ⟨g, cap, cur, h1.chg hc (hd p ((h2 p).2 (.inl rfl))) (hd g ((h2 g).2 (.inr rfl))), h3, h2⟩
theorem IntsF.sorted (h : IntsF w p F L W) : L.Pairwise (· < ·) := by
  obtain ⟨g, cap, cur, _, h3, _⟩ := h
  exact h3
theorem IntsF.fits (h : IntsF w p F L W) : ∀ x ∈ L, fitsW W x := by
  obtain ⟨g, cap, cur, h1, _, _⟩ := h
  exact h1.fits
theorem IntsF.width (h : IntsF w p F L W) : W = 2 ∨ W = 4 ∨ W = 8 := by
  obtain ⟨g, cap, cur, h1, _, _⟩ := h
  exact h1.width
theorem addF (h : IntsF w p F L W) (x : Int) (hx : -9223372036854775808 ≤ x ∧ x ≤ 9223372036854775807) (hf : L.length < 100000000) :
    Calls Try.prog 21 #[.pointer (some ⟨p, 0, none⟩), .int .i64 x] w fun e w' => e = .returned (.bool (decide (x ∉ L))) ∧ ∃ F', IntsF w' p F' (ins L x) (max W (wantsN x)) ∧ Fresh w F F' ∧ Chg F w w' := by
  obtain ⟨g, cap, cur, h1, h3, h2⟩ := h
  refine (add_row h1 h3 x hx hf).mono ?_
  rintro e w' ⟨he, L', g', cap', cur', h4, h5, h6, h7, h8⟩
  have hL' : L' = ins L x := by
    by_cases hm : x ∈ L
    · rw [h5 hm, ins_mem h3 hm]
    · obtain ⟨r, hr, e⟩ := h6 hm
      rw [e, ins_place h3 hm hr]
  subst hL'
  refine ⟨he, fun k => k = p ∨ k = g', ⟨g', cap', cur', h4, ins_sorted x h3, fun k => Iff.rfl⟩, ?_, h8.mono fun k hk _ => (h2 k).2 hk⟩
  rintro k (rfl | rfl)
  · exact .inl ((h2 k).2 (.inl rfl))
  · rcases h7 with rfl | h7
    · exact .inl ((h2 k).2 (.inr rfl))
    · exact .inr h7
theorem removeF (h : IntsF w p F L W) (x : Int) :
    Calls Try.prog 37 #[.pointer (some ⟨p, 0, none⟩), .int .i64 x] w fun e w' => e = .returned (.bool (decide (x ∈ L))) ∧ IntsF w' p F (del L x) W ∧ Chg F w w' := by
  obtain ⟨g, cap, cur, h1, h3, h2⟩ := h
  refine (remove_row h1 h3 x).mono ?_
  rintro e w' ⟨he, L', cap', cur', h4, h5, h6, h8⟩
  have hL' : L' = del L x := by
    by_cases hm : x ∈ L
    · obtain ⟨r, hr, h7, h9, e⟩ := h6 hm
      rw [e, del_place h3 h7 h9]
    · rw [h5 hm, del_not hm]
  subst hL'
  exact ⟨he, ⟨g, cap', cur', h4, del_sorted x h3, h2⟩, h8.mono fun k hk _ => (h2 k).2 hk⟩
theorem hasF (h : IntsF w p F L W) (x : Int) :
    Calls Try.prog 27 #[.pointer (some ⟨p, 0, none⟩), .int .i64 x] w fun e w' => e = .returned (.bool (decide (x ∈ L))) ∧ Chg (fun _ => False) w w' := by
  obtain ⟨g, cap, cur, h1, h3, h2⟩ := h
  exact (has_row h1 h3).mono fun e w' ⟨he, hb⟩ => ⟨he, Chg.of_below _ hb⟩
theorem lenF (h : IntsF w p F L W) : Calls Try.prog 19 #[.pointer (some ⟨p, 0, none⟩)] w fun e w' => e = .returned (.int .i64 L.length) ∧ w = w' := by
  obtain ⟨g, cap, cur, h1, _, _⟩ := h
  exact len_row h1
theorem widthF (h : IntsF w p F L W) : Calls Try.prog 20 #[.pointer (some ⟨p, 0, none⟩)] w fun e w' => e = .returned (.int .i64 W) ∧ w = w' := by
  obtain ⟨g, cap, cur, h1, _, _⟩ := h
  exact width_row h1
theorem bytesF (h : IntsF w p F L W) : Calls Try.prog 18 #[.pointer (some ⟨p, 0, none⟩)] w fun e w' => e = .returned (.string (strOf (intsBytes L W))) ∧ w = w' := by
  obtain ⟨g, cap, cur, h1, _, _⟩ := h
  exact bytes_row h1
theorem AtF (h : IntsF w p F L W) (i : Int) : Calls Try.prog 26 #[.pointer (some ⟨p, 0, none⟩), .int .i64 i] w fun e w' => e = .returned (atVal L i) ∧ ∃ n, w' = w.drewN n := by
  obtain ⟨g, cap, cur, h1, _, _⟩ := h
  exact At_row i h1
end
theorem newF (w : World) : Calls Try.prog 22 #[] w fun e w' => e = .returned (.pointer (some ⟨w.heap.size + 1, 0, none⟩)) ∧ IntsF w' (w.heap.size + 1) (fun k => k = w.heap.size + 1 ∨ k = w.heap.size) [] 2 ∧ Chg (fun _ => False) w w' :=
  (new_any w).mono fun e w' ⟨he, h1, h2⟩ => ⟨he, ⟨w.heap.size, 8, _, h1, List.Pairwise.nil, fun k => Iff.rfl⟩, h2⟩
end Go.Proofs.Ytncdckakcmoejaa
