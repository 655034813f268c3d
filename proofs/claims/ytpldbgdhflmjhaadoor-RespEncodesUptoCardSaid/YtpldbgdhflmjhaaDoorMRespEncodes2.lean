/- The row of the law RespEncodes, and its card: for every input of at most 1048576 values and letters the Go function returns true and its arguments read as before, out of the walk respEncodes_walk. The library's variables that the row lists hold what the program's text lays (the card's tie, given). -/
import Derived.Test.YtpldbgdhflmjhaaDoorMRespEncodes1
import Derived.Lib.Builder
import Derived.Lib.AppendStr
import Derived.Lib.UnsafeStr
import Derived.Laws.Externs
import Derived.Shelf.Strings.BuilderX
import Derived.WalkKit
import Derived.Lib.AppendIntMem
import Derived.Lib.ItoaWalk
import Derived.Deep.Cut
import Derived.Lib.ItoaLen
import Derived.Laws.BitsAllLaws
import Derived.Laws.Bits128
import Derived.Test.YtpldbgdhflmjhaaDoorRows
import Derived.Stop.LaidErr
import Derived.Lib.LaidTab
import Derived.LaidLaws
import Derived.ChangeSame
import Derived.ChangeArms
import Derived.Test.YtpldbgdhflmjhaaDoorCards
import Derived.Test.YtpldbgdhflmjhaaDoorTie
import Derived.ProofKit
import Derived.OpenShut
import Derived.ShutString
import Derived.ChangeOld
import Derived.Below
import Derived.SizedLaws
import Derived.Laws.Cover2
import Derived.Lib.SmallJoins
import Derived.Deep.Slices
import Derived.Deep.SlicePairs
import Derived.SliceStrings
import Derived.JoinedCond
import Derived.Deep.DeepHandedRow
/- (*strings.Builder).WriteString, at this program (the shelf's own proof, turned to it). -/
namespace Go.Proofs.YtpldbgdhflmjhaaDoor
set_option linter.unusedVariables false
set_option linter.unusedSimpArgs false
open Go.RowKit
abbrev isB (B b : Nat) (l : List UInt8) (w : World) : Prop := Lib.IsBuilder 61 5 B b (Lib.byteCells l) w
theorem sizeBuilder : (Tryd.prog.info? 61).map (·.size) = some 2 := by kernel_rfl
set_option maxHeartbeats 1000000 in
set_option maxRecDepth 100000 in
theorem copyCheck_used (b : Nat) (w : World) (h0 : w.cell? ⟨b, 0, none⟩ = some (.pointer (some ⟨b, 0, none⟩))) :
    Calls Tryd.prog 64 #[.pointer (some ⟨b, 0, none⟩)] w fun e w' => e = .returned (.tuple #[]) ∧ w' = w := by
  obtain ⟨j, hj, _⟩ := Option.map_eq_some_iff.1 sizeBuilder
  go_enter Tryd.func64, Tryd.ntmps64
  go_wp2
  rw [Lib.run_neq_ptr_same w _ Tryd.underlying59 hj]
  go_wp2
  go_end0
  exact ⟨rfl, rfl⟩
set_option maxHeartbeats 1000000 in
set_option maxRecDepth 100000 in
theorem copyCheck_fresh (b : Nat) (w : World) (h0 : w.cell? ⟨b, 0, none⟩ = some (.pointer none)) (hsh : w.shape? b = some (61, 2)) (hfz : w.frozen? ⟨b, 0, none⟩ = false) :
    Calls Tryd.prog 64 #[.pointer (some ⟨b, 0, none⟩)] w fun e w' => e = .returned (.tuple #[]) ∧ w' = w.setCell ⟨b, 0, none⟩ (.pointer (some ⟨b, 0, none⟩)) := by
  obtain ⟨j, hj, hjs⟩ := Option.map_eq_some_iff.1 sizeBuilder
  go_enter Tryd.func64, Tryd.ntmps64
  go_wp2
  rw [Lib.run_to_unsafe w ⟨b, 0, none⟩ Tryd.underlying59 Tryd.underlying114 hj (by rw [hjs]; decide) hsh (Nat.zero_lt_succ 1)]
  simp only [Result.andThen]
  rw [Oper.upon_value]
  go_wp2
  rw [run_callFunc_extern Tryd.func76 (by kernel_rfl) (by kernel_rfl) (by kernel_rfl) (e := Extern.AbiNoEscape.same) (by kernel_rfl)]
  rw [Lib.run_noEscape]
  simp only [Result.andThen]
  rw [Oper.upon_value]
  go_wp2
  rw [Lib.run_from_unsafe w ⟨b, 0, none⟩ Tryd.underlying114 Tryd.underlying59 hj hsh (by kernel_rfl)]
  simp only [Result.andThen]
  rw [Oper.upon_value]
  go_wp2
  go_end0
  exact ⟨rfl, rfl⟩
/-- A string behind a row that a call owns: where what comes of it lies. -/
theorem append_str_own {w : World} {B : Nat} {v : Value} {n : Nat} {xs : List Value} (h : w.ownsRow B 5 1 v n xs) (hB : B ≤ w.heap.size) (s : ByteArray) (hb : n + s.size ≤ 140737488355328) :
    ∃ v' w', (Builtin.append_ #[40, 9] 40 #[v, .string s]).run Tryd.prog w = .ok v' w' ∧ w'.ownsRow B 5 1 v' (n + s.size) (xs ++ Lib.strCells s) ∧ Chg (fun k => v.ownBlock = some k) w w' ∧ (v'.ownBlock = v.ownBlock ∨ ∃ k, v'.ownBlock = some k ∧ w.heap.size ≤ k) := by
  obtain ⟨i0, g1, g2, g3, g4⟩ := info_parts info_u8
  obtain ⟨v', w', hr, h2, h3, h4⟩ := Lib.run_append_own_string (P := Tryd.prog) w B 40 9 40 5 i0 Tryd.underlying40 Tryd.underlying9 g1 g2 g3 g4 v n xs h s (by unfold maxLen; omega) hb hB
  refine ⟨v', w', hr, h2, Chg.of_grown _ h3 (fun k hk => hk), ?_⟩
  rcases h.2 with ⟨rfl, rfl⟩ | ⟨g, cap, cur, rfl, hbg, hg, hnc, hcm, hcs, htake⟩
  · have hx : xs = [] := List.eq_nil_of_length_eq_zero (by have := h.1; simpa using this)
    subst hx
    obtain ⟨v2, w2, hr2, q2, _⟩ := Lib.run_append_own_string (P := Tryd.prog) w w.heap.size 40 9 40 5 i0 Tryd.underlying40 Tryd.underlying9 g1 g2 g3 g4 (.slice none 0 0) 0 [] (World.ownsRow_nil w _ _ 1) s (by unfold maxLen; omega) hb (Nat.le_refl _)
    rw [hr] at hr2
    simp only [Result.ok.injEq] at hr2
    obtain ⟨rfl, rfl⟩ := hr2
    rcases q2.2 with ⟨e, _⟩ | ⟨g', cap', cur', e, hge, _⟩
    · left; rw [e]
    · right; exact ⟨g', by rw [e]; rfl, hge⟩
  · obtain ⟨v2, w2, hr2, g', cap', cur', e, _, _, _, _, _, q6, _⟩ := run_append_row_str (P := Tryd.prog) (w := w) (e := 5) (ty := 40) Tryd.underlying40 Tryd.underlying9 g1 g2 g3 g4 rfl g n cap cur (RowAt.of hg) (by simpa using hcs) hnc hcm s (by unfold maxLen; omega) hb
    rw [hr] at hr2
    simp only [Result.ok.injEq] at hr2
    obtain ⟨rfl, rfl⟩ := hr2
    rw [e]
    rcases q6 with q6 | q6
    · left; exact q6
    · right; exact ⟨g', rfl, q6⟩
/-- A builder that holds these bytes; its blocks. -/
def Bldr (B b : Nat) (l : List UInt8) (F : Nat → Prop) (w : World) : Prop :=
  B ≤ b ∧ ∃ p v, (p = .pointer none ∨ p = .pointer (some ⟨b, 0, none⟩)) ∧ w.heap[b]? = some (.cells #[p, v] 61 (0, 0)) ∧ w.ownsRow B 5 1 v (Lib.byteCells l).length (Lib.byteCells l) ∧ v.ownBlock ≠ some b ∧ ∀ k, F k ↔ k = b ∨ v.ownBlock = some k
theorem Bldr.isB {B b : Nat} {l : List UInt8} {F : Nat → Prop} {w : World} (h : Bldr B b l F w) : isB B b l w := by
  obtain ⟨h1, p, v, h2, h3, h4, h5, _⟩ := h
  rcases h2 with rfl | rfl
  · exact .inl ⟨h1, v, h3, h4, h5⟩
  · exact .inr ⟨h1, v, h3, h4, h5⟩
theorem Bldr.lt {B b : Nat} {l : List UInt8} {F : Nat → Prop} {w : World} (h : Bldr B b l F w) {k : Nat} (hk : F k) : B ≤ k ∧ k < w.heap.size := by
  obtain ⟨h1, p, v, h2, h3, h4, h5, h6⟩ := h
  rcases (h6 k).1 hk with rfl | hk
  · exact ⟨h1, heap_lt h3⟩
  · exact h4.lt k hk
theorem Bldr.chg {B b : Nat} {l : List UInt8} {F S : Nat → Prop} {w w' : World} (h : Bldr B b l F w) (hc : Chg S w w') (hs : ∀ k, F k → ¬ S k) : Bldr B b l F w' := by
  have hlt := fun k => h.lt (k := k)
  obtain ⟨h1, p, v, h2, h3, h4, h5, h6⟩ := h
  refine ⟨h1, p, v, h2, hc.keep h3 (hs b ((h6 b).2 (.inl rfl))), ⟨h4.1, h4.2.imp id ?_⟩, h5, h6⟩
  rintro ⟨g, cap, cur, rfl, q1, q2, q3⟩
  exact ⟨g, cap, cur, rfl, q1, hc.keep q2 (hs g ((h6 g).2 (.inr rfl))), q3⟩
theorem Bldr.below {B b : Nat} {l : List UInt8} {F : Nat → Prop} {w w' : World} (h : Bldr B b l F w) (hb : Below w.heap.size w w') : Bldr B b l F w' := h.chg (Chg.of_below (fun _ => False) hb) fun _ _ => id
/-- What a call has written behind a builder's bytes. -/
def Wrote (B b : Nat) (l : List UInt8) (F : Nat → Prop) (w w' : World) : Prop := ∃ F', Bldr B b l F' w' ∧ (∀ k, F' k → F k ∨ w.heap.size ≤ k) ∧ Chg F w w'
theorem Wrote.andThen {B b : Nat} {l' : List UInt8} {F F1 : Nat → Prop} {w w1 w2 : World} (h1 : ∀ k, F1 k → F k ∨ w.heap.size ≤ k) (h2 : Chg F w w1) (h : Wrote B b l' F1 w1 w2) : Wrote B b l' F w w2 := by
  obtain ⟨F2, g1, g2, g3⟩ := h
  refine ⟨F2, g1, fun k hk => ?_, h2.trans g3 fun k hk hlt => ?_⟩
  · rcases g2 k hk with h | h
    · exact h1 k h
    · exact .inr (Nat.le_trans h2.size h)
  · rcases h1 k hk with h | h
    · exact h
    · omega
theorem Wrote.after {B b : Nat} {l : List UInt8} {F : Nat → Prop} {w w1 w2 : World} (hb : Below w.heap.size w w1) (h : Wrote B b l F w1 w2) : Wrote B b l F w w2 := Wrote.andThen (fun k hk => .inl hk) (Chg.of_below _ hb) h
theorem copyCheck_bldr {B b : Nat} {l : List UInt8} {F : Nat → Prop} {w : World} (h : Bldr B b l F w) :
    Calls Tryd.prog 64 #[.pointer (some ⟨b, 0, none⟩)] w fun e w' => e = .returned (.tuple #[]) ∧ (∃ v, w'.heap[b]? = some (.cells #[.pointer (some ⟨b, 0, none⟩), v] 61 (0, 0)) ∧ w'.ownsRow B 5 1 v (Lib.byteCells l).length (Lib.byteCells l) ∧ v.ownBlock ≠ some b ∧ ∀ k, F k ↔ k = b ∨ v.ownBlock = some k) ∧ Chg (fun k => k = b) w w' := by
  obtain ⟨h1, p, v, h2, h3, h4, h5, h6⟩ := h
  rcases h2 with rfl | rfl
  · refine (copyCheck_fresh b w (cell_in h3 rfl) (by simp [World.shape?, h3]) (frozen_in h3 0)).mono ?_
    rintro e w' ⟨rfl, rfl⟩
    have hc : Chg (fun k => k = b) w (w.setCell ⟨b, 0, none⟩ (.pointer (some ⟨b, 0, none⟩))) := Chg.setCell _ _ _ _ rfl
    refine ⟨rfl, ⟨v, setCell_head h3 0 _, ⟨h4.1, h4.2.imp id ?_⟩, h5, h6⟩, hc⟩
    rintro ⟨g, cap, cur, rfl, q1, q2, q3⟩
    exact ⟨g, cap, cur, rfl, q1, hc.keep q2 (fun e => h5 (by rw [← e]; rfl)), q3⟩
  · refine (copyCheck_used b w (cell_in h3 rfl)).mono ?_
    rintro e w' ⟨rfl, rfl⟩
    exact ⟨rfl, ⟨v, h3, h4, h5, h6⟩, Chg.refl _ _⟩
set_option maxHeartbeats 2000000 in
set_option maxRecDepth 100000 in
theorem writeString {B b : Nat} {l : List UInt8} {F : Nat → Prop} (s : ByteArray) {w : World} (h : Bldr B b l F w) (hlen : l.length + s.size ≤ 140737488355328) (hBw : B ≤ w.heap.size) :
    Calls Tryd.prog 49 #[.pointer (some ⟨b, 0, none⟩), .string s] w fun e w' => e = .returned (.tuple #[.int .i64 s.size, .nilIface]) ∧ Wrote B b (l ++ s.data.toList) F w w' := by
  have hbl : (Lib.byteCells l).length = l.length := by simp [Lib.byteCells]
  have hB := h.1
  have HC := Lib.hid (copyCheck_bldr h)
  have HH := Lib.hid (And.intro hlen hBw)
  clear h hlen hBw
  go_enter Tryd.func49, Tryd.ntmps49
  go_wp2_with fail
  refine HC.out.mono ?_
  rintro e w1 ⟨rfl, ⟨v, hbk, hown, hne, hF⟩, c1⟩
  have hsz := c1.size
  obtain ⟨v', w2, hr, o2, c2, hv2⟩ := append_str_own hown (Nat.le_trans HH.out.2 hsz) s (by rw [hbl]; exact HH.out.1)
  have hb2 := c2.keep hbk hne
  have hlt := heap_lt hbk
  obtain ⟨an, nn, cn, rfl⟩ : ∃ a n c, v = .slice a n c := by
    rcases hown.2 with ⟨hv, _⟩ | ⟨g, cap, cur, hv, _⟩
    · exact ⟨_, _, _, hv⟩
    · exact ⟨_, _, _, hv⟩
  obtain ⟨ao, n', cap, rfl⟩ : ∃ ao n' cap, v' = .slice ao n' cap := by
    rcases o2.2 with ⟨hv, _⟩ | ⟨g, cap, cur, hv, _⟩
    · exact ⟨_, _, _, hv⟩
    · exact ⟨_, _, _, hv⟩
  have d0 := cell_in hbk (i := 1) rfl
  have d1 := cell_in hb2 (i := 1) rfl
  have f1 := frozen_in hb2 1
  obtain ⟨w3, hw3⟩ : ∃ w3, w3 = w2.setCell ⟨b, 1, none⟩ (.slice ao n' cap) := ⟨_, rfl⟩
  have hcat : Lib.byteCells l ++ Lib.strCells s = Lib.byteCells (l ++ s.data.toList) := by simp [Lib.byteCells, Lib.strCells]
  have HE := Lib.hid (show Wrote B b (l ++ s.data.toList) F w w3 from by
    have hnb : (Value.slice ao n' cap).ownBlock ≠ some b := fun e => by
      rcases hv2 with h | ⟨k, h, hk⟩
      · exact hne (by rw [← h]; exact e)
      · rw [h] at e; cases e; omega
    have c3 : Chg (fun k => k = b) w2 w3 := by rw [hw3]; exact Chg.setCell _ _ _ _ rfl
    refine ⟨fun k => k = b ∨ (Value.slice ao n' cap).ownBlock = some k, ⟨hB, _, _, .inr rfl, by rw [hw3]; exact setCell_head hb2 1 _, ⟨by rw [← hcat]; simp, o2.2.imp ?_ ?_⟩, hnb, fun k => Iff.rfl⟩, fun k hk => ?_, ?_⟩
    · rintro ⟨e, e2⟩
      refine ⟨e, ?_⟩
      rw [← hcat, List.length_append, Lib.strCells_length]; exact e2
    · rintro ⟨g, cp, cur, e, q1, q2, q3, q4, q5, q6⟩
      have hg : g ≠ b := fun e' => hnb (by rw [e, e']; rfl)
      refine ⟨g, cp, cur, by rw [e, ← hcat, List.length_append, Lib.strCells_length], q1, c3.keep q2 hg, by rw [← hcat, List.length_append, Lib.strCells_length]; exact q3, q4, q5, by rw [← hcat, List.length_append, Lib.strCells_length]; exact q6⟩
    · rcases hk with rfl | hk
      · exact .inl ((hF _).2 (.inl rfl))
      · rcases hv2 with h | ⟨j, h, hj⟩
        · exact .inl ((hF k).2 (.inr (by rw [← h]; exact hk)))
        · rw [h] at hk; cases hk; exact .inr (Nat.le_trans hsz hj)
    · exact ((c1.mono fun k hk _ => (hF k).2 (.inl hk)).trans c2 fun k hk _ => (hF k).2 (.inr hk)).trans c3 fun k hk _ => (hF k).2 (.inl hk))
  have HR := Lib.hid hr
  have HW3 := Lib.hid hw3
  clear hbk hown hne hF c1 hsz hr o2 c2 hv2 hb2 hlt hw3 hcat hbl
  go_wp2_with (at_builtin; refine wpList_append_run rfl rfl HR.out ?_)
  rw [← HW3.out]
  go_ret2
  exact ⟨rfl, HE.out⟩
end Go.Proofs.YtpldbgdhflmjhaaDoor

/- what the library's variables hold, at a seat whose rows lay them. -/
namespace Go.Proofs.YtpldbgdhflmjhaaDoor
set_option linter.unusedVariables false
set_option linter.unusedSimpArgs false
open Go.RowKit Go.Sort Go.Lib
theorem var_below {P : Program} {w w' : World} {name : String} {r : Array Value} (h : w.var? P name = some r) (hb : Below w.heap.size w w') : w'.var? P name = some r := by
  unfold World.var? at *
  cases hg : P.globalNamed name with
  | none => simp [hg] at h
  | some g =>
    simp only [hg, Option.bind_some] at h ⊢
    have hlt : g < w.heap.size := by
      rcases Nat.lt_or_ge g w.heap.size with h' | h'
      · exact h'
      · rw [Array.getElem?_eq_none h'] at h; simp at h
    rw [hb.block g hlt]
    exact h
/-- What the library's variables hold. -/
structure Laid (w : World) : Prop where
  tab : Lib.TabIs Tryd.prog w "internal/strconv.uint64pow10" .u64 Lib.pow10Tab
  syn : ∃ tp p, w.var? Tryd.prog "strconv.ErrSyntax" = some #[.iface tp p]
  rng : ∃ tp p, w.var? Tryd.prog "strconv.ErrRange" = some #[.iface tp p]
  max : ∃ m, w.cell? ⟨0, 0, none⟩ = some (.int .i64 m)
theorem Laid.below {w w' : World} (h : Laid w) (hb : Below w.heap.size w w') : Laid w' := by
  refine { tab := Lib.tabBelow_of_tabIs h.tab w' hb, syn := ?_, rng := ?_
           max := ?_
         }
  · obtain ⟨t2, p2, h2⟩ := h.syn; exact ⟨t2, p2, var_below h2 hb⟩
  · obtain ⟨t2, p2, h2⟩ := h.rng; exact ⟨t2, p2, var_below h2 hb⟩
  · obtain ⟨m, h4⟩ := h.max; exact ⟨m, (hb.cell (World.block_lt_of_cell? w _ h4)).trans h4⟩
end Go.Proofs.YtpldbgdhflmjhaaDoor

/- num.Int, num.IntText. -/
namespace Go.Proofs.YtpldbgdhflmjhaaDoor
set_option linter.unusedVariables false
set_option linter.unusedSimpArgs false
open Go.RowKit
theorem fmtI (n : Int) (hn : -9223372036854775808 ≤ n ∧ n ≤ 9223372036854775807) {w : World} (hl : Laid w) :
    Calls Tryd.prog 65 #[.int .i64 n, .int .i64 10] w fun e w' => e = .returned (.string (intT n)) ∧ Below w.heap.size w w' :=
  (Tryd.strconv_FormatInt_10 n hn.1 hn.2 w hl.tab).mono fun e w' ⟨h1, k, os, h2⟩ => ⟨h1, by rw [h2]; exact Lib.below_grow _ w (Nat.le_refl _) k os⟩
set_option maxHeartbeats 800000 in
set_option maxRecDepth 100000 in
theorem intText_any (n : Int) (hn : -9223372036854775808 ≤ n ∧ n ≤ 9223372036854775807) {w : World} (hl : Laid w) :
    Calls Tryd.prog 50 #[.int .i64 n] w fun e w' => e = .returned (.string (intT n)) ∧ Below w.heap.size w w' := by
  have H := Lib.hid (fmtI n hn hl)
  clear hl
  go_enter Tryd.func50, Tryd.ntmps50
  go_wp2_with fail
  refine H.out.mono ?_
  rintro e w' ⟨rfl, hb⟩
  have HB := Lib.hid hb
  clear hb
  go_wp2_with fail
  go_ret
  exact ⟨rfl, HB.out⟩
def intV (s : ByteArray) : Value := match intS s with
  | some n => .tuple #[.int .i64 n, .bool true]
  | none => .tuple #[.int .i64 0, .bool false]
set_option maxHeartbeats 1600000 in
set_option maxRecDepth 100000 in
theorem int_any (s : ByteArray) (hs : s.size ≤ 281474976710656) {w : World} (hl : Laid w) :
    Calls Tryd.prog 71 #[.string s] w fun e w' => e = .returned (intV s) ∧ Below w.heap.size w w' := by
  cases hp : Lib.parseIntB 64 s.data.toList with
  | ok u =>
    have hu := parseI_range hp
    have HP := Lib.hid (Tryd.strconv_ParseInt_10_at64_ok s (by omega) u hp w)
    have HF := Lib.hid (fun w' (hb : Below w.heap.size w w') => fmtI u hu (hl.below hb))
    by_cases hi : intT u = s
    · have he : intV s = .tuple #[.int .i64 u, .bool true] := by
        have h2 : strOf (Lib.itoa u) = s := hi
        unfold intV intS; rw [hp]; simp [h2]
      rw [he]
      obtain ⟨t, ht⟩ : ∃ t, intT u = t := ⟨_, rfl⟩
      rw [ht] at HF hi
      have hb := str_eq hi
      have HI := Lib.hid hi
      clear hl he hp ht hi
      go_enter Tryd.func71, Tryd.ntmps71
      go_wp2_with fail
      refine HP.out.mono ?_
      rintro e w1 ⟨rfl, hw1⟩
      have HB1 := Lib.hid (show Below w.heap.size w w1 by
        rcases hw1 with rfl | ⟨_, rfl⟩
        · exact Below.refl _ _
        · exact Lib.bytesWorld_below _ _ _)
      clear hw1
      go_wp2_with fail
      refine (HF.out _ HB1.out).mono ?_
      rintro e w2 ⟨rfl, hb2⟩
      have HB2 := Lib.hid (HB1.out.trans (hb2.mono HB1.out.size))
      clear hb2
      go_wp2_with fail
      go_ret2
      exact ⟨rfl, HB2.out⟩
    · have he : intV s = .tuple #[.int .i64 0, .bool false] := by
        have h2 : ¬ strOf (Lib.itoa u) = s := hi
        unfold intV intS; rw [hp]; simp [h2]
      rw [he]
      obtain ⟨t, ht⟩ : ∃ t, intT u = t := ⟨_, rfl⟩
      rw [ht] at HF hi
      have hb := str_ne hi
      clear hl he hp ht hi
      go_enter Tryd.func71, Tryd.ntmps71
      go_wp2_with fail
      refine HP.out.mono ?_
      rintro e w1 ⟨rfl, hw1⟩
      have HB1 := Lib.hid (show Below w.heap.size w w1 by
        rcases hw1 with rfl | ⟨_, rfl⟩
        · exact Below.refl _ _
        · exact Lib.bytesWorld_below _ _ _)
      clear hw1
      go_wp2_with fail
      refine (HF.out _ HB1.out).mono ?_
      rintro e w2 ⟨rfl, hb2⟩
      have HB2 := Lib.hid (HB1.out.trans (hb2.mono HB1.out.size))
      clear hb2
      go_wp2_with fail
      go_ret2
      exact ⟨rfl, HB2.out⟩
  | range =>
    have he : intV s = .tuple #[.int .i64 0, .bool false] := by unfold intV intS; rw [hp]
    rw [he]
    obtain ⟨tp, p, hv⟩ := hl.rng
    have HP := Lib.hid (Tryd.strconv_ParseInt_10_at64_range_var s hs hp tp p w hv)
    clear hl he hp hv
    go_enter Tryd.func71, Tryd.ntmps71
    go_wp2_with fail
    refine HP.out.mono ?_
    rintro e w1 ⟨N, rfl, _, _, hb⟩
    have HB1 := Lib.hid hb
    clear hb
    go_wp2_with fail
    go_ret2
    exact ⟨rfl, HB1.out⟩
  | _ =>
    have he : intV s = .tuple #[.int .i64 0, .bool false] := by unfold intV intS; rw [hp]
    rw [he]
    obtain ⟨tp, p, hv⟩ := hl.syn
    have HP := Lib.hid (Tryd.strconv_ParseInt_10_at64_syntax_var s hs hp tp p w hv)
    clear hl he hp hv
    go_enter Tryd.func71, Tryd.ntmps71
    go_wp2_with fail
    refine HP.out.mono ?_
    rintro e w1 ⟨N, rfl, _, _, hb⟩
    have HB1 := Lib.hid hb
    clear hb
    go_wp2_with fail
    go_ret2
    exact ⟨rfl, HB1.out⟩
end Go.Proofs.YtpldbgdhflmjhaaDoor

/- resp.put's closure: a sign, a number and the line's end. -/
namespace Go.Proofs.YtpldbgdhflmjhaaDoor
set_option linter.unusedVariables false
set_option linter.unusedSimpArgs false
open Go.RowKit
/-- The library's table of powers of ten. -/
abbrev Tab (w : World) : Prop := Lib.TabIs Tryd.prog w "internal/strconv.uint64pow10" .u64 Lib.pow10Tab
theorem Tab.below {w w' : World} (h : Tab w) (hb : Below w.heap.size w w') : Tab w' := Lib.tabBelow_of_tabIs h w' hb
set_option maxHeartbeats 800000 in
set_option maxRecDepth 100000 in
theorem intText_tab (n : Int) (hn : -9223372036854775808 ≤ n ∧ n ≤ 9223372036854775807) {w : World} (hl : Tab w) :
    Calls Tryd.prog 50 #[.int .i64 n] w fun e w' => e = .returned (.string (intT n)) ∧ Below w.heap.size w w' := by
  have H := Lib.hid (show Calls Tryd.prog 65 #[.int .i64 n, .int .i64 10] w fun e w' => e = .returned (.string (intT n)) ∧ Below w.heap.size w w' from
    (Tryd.strconv_FormatInt_10 n hn.1 hn.2 w hl).mono fun e w' ⟨h1, k, os, h2⟩ => ⟨h1, by rw [h2]; exact Lib.below_grow _ w (Nat.le_refl _) k os⟩)
  clear hl
  go_enter Tryd.func50, Tryd.ntmps50
  go_wp2_with fail
  refine H.out.mono ?_
  rintro e w' ⟨rfl, hb⟩
  have HB := Lib.hid hb
  clear hb
  go_wp2_with fail
  go_ret
  exact ⟨rfl, HB.out⟩
theorem intT_len {n : Int} (hn : -9223372036854775808 ≤ n ∧ n ≤ 9223372036854775807) : (intT n).size ≤ 21 := by
  have := Lib.itoa_length_le n hn.1 hn.2
  unfold intT strOf
  show (Lib.itoa n).toArray.size ≤ 21
  simpa using this
theorem cat_list (a b : ByteArray) : (a ++ b).data.toList = a.data.toList ++ b.data.toList := by
  rw [ByteArray.data_append, Array.toList_append]
set_option maxHeartbeats 1600000 in
set_option maxRecDepth 100000 in
theorem put1_any {w0 w : World} (ht : Tab w0) (hb : Below w0.heap.size w0 w) {b q : Nat} {l : List UInt8} {F : Nat → Prop} (h : Bldr w0.heap.size b l F w) (hq : w.cell? ⟨q, 0, none⟩ = some (.pointer (some ⟨b, 0, none⟩))) (x : UInt8) (n : Int) (hn : -9223372036854775808 ≤ n ∧ n ≤ 9223372036854775807) (hlen : l.length ≤ 1000000000) :
    Calls Tryd.prog 48 #[.string ⟨#[x]⟩, .int .i64 n, .pointer (some ⟨q, 0, none⟩)] w fun e w' => (∃ v, e = .returned v) ∧ Wrote w0.heap.size b (l ++ (x :: (Lib.itoa n ++ [13, 10]))) F w w' := by
  have HI := Lib.hid (fun w' (hb' : Below w0.heap.size w0 w') => intText_tab n hn (ht.below hb'))
  have hst : ∀ w', Below w.heap.size w w' → w'.cell? ⟨q, 0, none⟩ = some (.pointer (some ⟨b, 0, none⟩)) := fun w' hb => (hb.cell (p := ⟨q, 0, none⟩) (World.block_lt_of_cell? w _ hq)).trans hq
  obtain ⟨X1, f, hX1, hf, hF⟩ := classOf (fun w' => w'.cell? ⟨q, 0, none⟩ = some (.pointer (some ⟨b, 0, none⟩))) (w := w) hq
  have HFa := Lib.hid (fun w' hb => hF w' (hst w' hb))
  have HB := Lib.hid (And.intro hb h)
  have ht21 := intT_len hn
  obtain ⟨t, hT⟩ : ∃ t, intT n = t := ⟨_, rfl⟩
  rw [hT] at HI ht21
  have HT := Lib.hid (show t.data.toList = Lib.itoa n by rw [← hT]; rfl)
  clear ht hb h hq hn hst hF hT
  go_enter Tryd.func48, Tryd.ntmps48
  go_upto_region 0 with (fail)
  refine wp_region_text ⟨[3, 6], [], 6⟩ (fun w' => ∃ x : X1, w' = f x) (by kernel_rfl) (by kernel_rfl) (HFa.out _ (belowN (Below.refl _ _) 1)) ?_
  refine wpC_seg false (HFa.out _ (belowN (Below.refl _ _) 1)) 3 0 _ _ (by rfl) (by rfl) ?_
  simp only [List.take_succ_cons, List.take_zero, List.drop_succ_cons, List.drop_zero, Bool.false_eq_true, if_false, Nat.zero_add, Nat.reduceAdd]
  repeat (go_big_quiet_step (fail))
  refine wpQuiet_nil ?_
  refine wpC_loud (by rfl) (by rfl) fun K hK => ?_
  go_wp2_with fail
  refine (HI.out _ (HB.out.1.trans (belowN (Below.refl _ _) 1))).mono ?_
  rintro e w2 ⟨rfl, b2⟩
  have H2 := Lib.hid (show Below w.heap.size w w2 from (belowN (Below.refl _ _) 1).trans b2)
  refine hK _ _ (fun _ => HFa.out _ H2.out) ?_
  clear hK b2
  refine wpC_seg false (HFa.out _ H2.out) 2 4 _ _ (by rfl) (by rfl) ?_
  simp only [List.take_succ_cons, List.take_zero, List.drop_succ_cons, List.drop_zero, Bool.false_eq_true, if_false, Nat.zero_add, Nat.reduceAdd]
  repeat (go_big_quiet_step (fail))
  refine wpQuiet_nil ?_
  refine wpC_loud (by rfl) (by rfl) fun K hK => ?_
  clear hf HFa
  have hw := writeString (B := w0.heap.size) (b := b) (l := l) (⟨#[x]⟩ ++ t ++ ⟨#[13, 10]⟩) (HB.out.2.below H2.out) (by simp only [ByteArray.size_append]; show l.length + (1 + t.size + 2) ≤ _; omega) (Nat.le_trans HB.out.1.size H2.out.size)
  have HWs := Lib.hid hw
  clear hw
  go_wp2_with fail
  refine HWs.out.mono ?_
  rintro e w3 ⟨rfl, h3⟩
  have H3 := Lib.hid (h3.after H2.out)
  clear h3
  refine hK _ _ (fun h => absurd h (by decide)) ?_
  clear hK
  refine wpC_nil ?_
  go_wp2_with fail
  go_end0
  refine ⟨⟨_, rfl⟩, ?_⟩
  have h3 := H3.out
  rw [cat_list, cat_list, HT.out] at h3
  simpa using h3
end Go.Proofs.YtpldbgdhflmjhaaDoor

/- resp.put: a reply's bytes go into the builder. -/
namespace Go.Proofs.YtpldbgdhflmjhaaDoor
set_option linter.unusedVariables false
set_option linter.unusedSimpArgs false
open Go.RowKit
abbrev PutOk (r : Rep) : Prop := ∀ (w0 w : World) (b : Nat) (l : List UInt8) (F : Nat → Prop) (v : Value) (d : Nat), mayR d r = true → Tab w0 → Below w0.heap.size w0 w → RepV w0 r v → Bldr w0.heap.size b l F w → l.length + 30 * sizeR r ≤ 1000000000 → sizeR r ≤ 1100000 →
  Calls Tryd.prog 29 #[.pointer (some ⟨b, 0, none⟩), v] w fun e w' => (∃ u, e = .returned u) ∧ Wrote w0.heap.size b (l ++ encR r) F w w'
theorem encR_len (r : Rep) : ∀ {w : World} {v : Value}, RepV w r v → sizeR r ≤ 1100000 → (encR r).length ≤ 30 * sizeR r := by
  induction r using Rep.ind with
  | h k t n l ih =>
    rintro w v ⟨a, c, rfl, hok, hrow⟩ hs
    simp only [Rep.k, Rep.t, Rep.n, Rep.l] at *
    simp only [sizeR] at hs ⊢
    have hL : (encL l).length ≤ 30 * sizeL l := by
      have : ∀ (m : List Rep), (∀ r ∈ m, ∃ w v, RepV w r v ∧ sizeR r ≤ 1100000) → (∀ r ∈ m, r ∈ l) → (encL m).length ≤ 30 * sizeL m := by
        intro m
        induction m with
        | nil => intro _ _; simp [encL, sizeL]
        | cons r m ihm =>
          intro h1 h2
          obtain ⟨w', v', h3, h4⟩ := h1 r (by simp)
          have h5 := ih r (h2 r (by simp)) h3 h4
          have h6 := ihm (fun x hx => h1 x (by simp [hx])) (fun x hx => h2 x (by simp [hx]))
          simp only [encL, sizeL, List.length_append]
          omega
      refine this l (fun r hr => ?_) (fun r hr => hr)
      obtain ⟨i, hi, rfl⟩ := List.getElem_of_mem hr
      obtain ⟨b, o, r', a', c', _, h1, _, h2⟩ := hrow.cells hi
      rw [List.getElem?_eq_getElem hi] at h1
      cases h1
      have := sizeL_mem hr
      exact ⟨w, _, h2, by omega⟩
    have h1 := Lib.itoa_length_le n hok.2.1 hok.2.2
    have h2 := Lib.itoa_length_le (t.size : Int) (by omega) (by omega)
    have h3 := Lib.itoa_length_le (l.length : Int) (by omega) (by omega)
    have h4 : t.data.toList.length = t.size := by rw [Array.length_toList]; rfl
    simp only [encR]
    repeat' split
    all_goals simp only [List.length_cons, List.length_append, List.length_nil]
    all_goals omega
/-- The cells that put lays. -/
theorem putW {w w1 : World} {b : Nat} {k : Int} {t : ByteArray} {n : Int} {a : Option Addr} {m c : Nat} (hw1 : w1 = (w.alloc (.cells #[.pointer (some ⟨b, 0, none⟩)] 59)).alloc (.cells #[.int .u8 k, .string t, .int .i64 n, .slice a m c] 25)) :
    Below w.heap.size w w1 ∧ w1.cell? ⟨w.heap.size, 0, none⟩ = some (.pointer (some ⟨b, 0, none⟩)) ∧ w1.heap[w.heap.size + 1]? = some (.cells #[.int .u8 k, .string t, .int .i64 n, .slice a m c] 25 (0, 0)) ∧ w1.heap.size = w.heap.size + 2 := by
  rw [hw1]
  refine ⟨((Below.refl _ _).alloc (Nat.le_refl _) _).alloc (by simp) _, cell_in (heap_old (heap_new _ _) _) rfl, ?_, by simp⟩
  have := heap_new (w.alloc (.cells #[.pointer (some ⟨b, 0, none⟩)] 59)) (.cells #[.int .u8 k, .string t, .int .i64 n, .slice a m c] 25)
  rw [World.size_alloc] at this
  exact this
set_option maxHeartbeats 1600000 in
set_option maxRecDepth 100000 in
theorem put_text {k : Int} (x : UInt8) (hk : (k = 1 ∧ x = 43) ∨ (k = 2 ∧ x = 45)) {w0 w : World} (hb : Below w0.heap.size w0 w) {b : Nat} {l : List UInt8} {F : Nat → Prop} (h : Bldr w0.heap.size b l F w) (t : ByteArray) (hlen : l.length + 30 * (1 + t.size) ≤ 1000000000) (n : Int) (a : Option Addr) (m c : Nat) :
    Calls Tryd.prog 29 #[.pointer (some ⟨b, 0, none⟩), .agg #[.int .u8 k, .string t, .int .i64 n, .slice a m c]] w fun e w' => (∃ u, e = .returned u) ∧ Wrote w0.heap.size b (l ++ x :: (t.data.toList ++ crlfB)) F w w' := by
  obtain ⟨w1, hw1⟩ : ∃ w1, w1 = (w.alloc (.cells #[.pointer (some ⟨b, 0, none⟩)] 59)).alloc (.cells #[.int .u8 k, .string t, .int .i64 n, .slice a m c] 25) := ⟨_, rfl⟩
  obtain ⟨hb1, k1, k2, hs1⟩ := putW hw1
  have hw := writeString (B := w0.heap.size) (b := b) (l := l) (⟨#[x]⟩ ++ t ++ ⟨#[13, 10]⟩) (h.below hb1) (by simp only [ByteArray.size_append]; show l.length + (1 + t.size + 2) ≤ _; omega) (Nat.le_trans hb.size hb1.size)
  have HWs := Lib.hid hw
  have HB := Lib.hid (And.intro hb hb1)
  have HW := Lib.hid hw1
  have hmf : ∀ (fn : Fn) (first cap : Array Value) (w : World), (Instr.makeFunc fn first cap).run Tryd.prog w = .ok (.func fn first cap) w := fun _ _ _ _ => rfl
  have ht6 : t.size ≤ 1000000000 := by omega
  clear hb h hlen hw1 hb1 k1 k2 hs1 hw
  rcases hk with ⟨rfl, rfl⟩ | ⟨rfl, rfl⟩
  all_goals
    go_enter Tryd.func29, Tryd.ntmps29
    go_wp2_with fail
    rw [← HW.out]
    refine HWs.out.mono ?_
    rintro e w3 ⟨rfl, h3⟩
    have H3 := Lib.hid (h3.after HB.out.2)
    clear h3
    go_wp2_with fail
    go_end0
    refine ⟨⟨_, rfl⟩, ?_⟩
    have h3 := H3.out
    rw [cat_list, cat_list] at h3
    simpa using h3
set_option maxHeartbeats 1600000 in
set_option maxRecDepth 100000 in
theorem put_num {k : Int} (x : UInt8) (z n : Int) (hk : (k = 3 ∧ x = 58 ∧ z = n) ∨ (k = 5 ∧ x = 36 ∧ z = -1) ∨ (k = 7 ∧ x = 42 ∧ z = -1)) (hz : -9223372036854775808 ≤ z ∧ z ≤ 9223372036854775807) {w0 w : World} (ht : Tab w0) (hb : Below w0.heap.size w0 w) {b : Nat} {l : List UInt8} {F : Nat → Prop} (h : Bldr w0.heap.size b l F w) (hlen : l.length ≤ 1000000000) (t : ByteArray) (a : Option Addr) (m c : Nat) :
    Calls Tryd.prog 29 #[.pointer (some ⟨b, 0, none⟩), .agg #[.int .u8 k, .string t, .int .i64 n, .slice a m c]] w fun e w' => (∃ u, e = .returned u) ∧ Wrote w0.heap.size b (l ++ x :: (Lib.itoa z ++ crlfB)) F w w' := by
  obtain ⟨w1, hw1⟩ : ∃ w1, w1 = (w.alloc (.cells #[.pointer (some ⟨b, 0, none⟩)] 59)).alloc (.cells #[.int .u8 k, .string t, .int .i64 n, .slice a m c] 25) := ⟨_, rfl⟩
  obtain ⟨hb1, k1, k2, hs1⟩ := putW hw1
  have HP := Lib.hid (put1_any ht (hb.trans (hb1.mono hb.size)) (h.below hb1) k1 x z hz hlen)
  have HB := Lib.hid (And.intro hb hb1)
  have HW := Lib.hid hw1
  have hmf : ∀ (fn : Fn) (first cap : Array Value) (w : World), (Instr.makeFunc fn first cap).run Tryd.prog w = .ok (.func fn first cap) w := fun _ _ _ _ => rfl
  clear hb h hlen hw1 hb1 k1 k2 hs1 ht hz
  rcases hk with ⟨rfl, rfl, rfl⟩ | ⟨rfl, rfl, rfl⟩ | ⟨rfl, rfl, rfl⟩
  all_goals
    go_enter Tryd.func29, Tryd.ntmps29
    go_wp2_with fail
    rw [← HW.out]
    refine HP.out.mono ?_
    rintro e w3 ⟨⟨u, rfl⟩, h3⟩
    have H3 := Lib.hid (h3.after HB.out.2)
    clear h3
    go_wp2_with fail
    go_end0
    exact ⟨⟨_, rfl⟩, H3.out⟩
set_option maxHeartbeats 1600000 in
set_option maxRecDepth 100000 in
theorem put_bulk {w0 w : World} (ht : Tab w0) (hb : Below w0.heap.size w0 w) {b : Nat} {l : List UInt8} {F : Nat → Prop} (h : Bldr w0.heap.size b l F w) (t : ByteArray) (hlen : l.length + 30 * (1 + t.size) ≤ 1000000000) (n : Int) (a : Option Addr) (m c : Nat) :
    Calls Tryd.prog 29 #[.pointer (some ⟨b, 0, none⟩), .agg #[.int .u8 4, .string t, .int .i64 n, .slice a m c]] w fun e w' => (∃ u, e = .returned u) ∧ Wrote w0.heap.size b (l ++ 36 :: (Lib.itoa t.size ++ (crlfB ++ (t.data.toList ++ crlfB)))) F w w' := by
  obtain ⟨w1, hw1⟩ : ∃ w1, w1 = (w.alloc (.cells #[.pointer (some ⟨b, 0, none⟩)] 59)).alloc (.cells #[.int .u8 4, .string t, .int .i64 n, .slice a m c] 25) := ⟨_, rfl⟩
  obtain ⟨hb1, k1, k2, hs1⟩ := putW hw1
  have HP := Lib.hid (put1_any ht (hb.trans (hb1.mono hb.size)) (h.below hb1) k1 36 (t.size : Int) (by omega) (by omega))
  have hBb : w0.heap.size ≤ w.heap.size := hb.size
  have HB := Lib.hid (And.intro hb (And.intro hb1 (And.intro k1 (And.intro k2 hs1))))
  have HF := Lib.hid h
  have HW := Lib.hid hw1
  have hmf : ∀ (fn : Fn) (first cap : Array Value) (w : World), (Instr.makeFunc fn first cap).run Tryd.prog w = .ok (.func fn first cap) w := fun _ _ _ _ => rfl
  have hil := Lib.itoa_length_le (t.size : Int) (by omega) (by omega)
  have HL := Lib.hid (And.intro hlen hil)
  have ht6 : t.size ≤ 1000000000 := by omega
  clear hb h hw1 hb1 k1 k2 hs1 ht hil hlen
  go_enter Tryd.func29, Tryd.ntmps29
  go_wp2_with fail
  rw [← HW.out]
  refine HP.out.mono ?_
  rintro e w3 ⟨⟨u, rfl⟩, F3, g1, g2, g3⟩
  have hn1 : ¬ F (w.heap.size) := fun hf => by have := (HF.out.lt hf).2; omega
  have hn2 : ¬ F (w.heap.size + 1) := fun hf => by have := (HF.out.lt hf).2; omega
  have c0 : w3.cell? ⟨w.heap.size, 0, none⟩ = some (.pointer (some ⟨b, 0, none⟩)) := by
    rw [← HB.out.2.2.1]; unfold World.cell?; rw [g3.block _ (by rw [HB.out.2.2.2.2]; omega) hn1]
  have j2 := g3.keep HB.out.2.2.2.1 hn2
  have c1 := cell_in j2 (i := 1) rfl
  have hw := writeString (t ++ ⟨#[13, 10]⟩) g1 (by simp only [ByteArray.size_append, List.length_append, List.length_cons, List.length_nil]; have := HL.out; show _ + (t.size + 2) ≤ _; omega) (Nat.le_trans hBb (Nat.le_trans HB.out.2.1.size g3.size))
  have HWs := Lib.hid (hw.mono fun e w' h => (⟨h.1, Wrote.after HB.out.2.1 (Wrote.andThen g2 g3 h.2)⟩ : e = _ ∧ _))
  clear g1 g2 g3 hn1 hn2 j2 hw
  go_wp2_with fail
  refine HWs.out.mono ?_
  rintro e w4 ⟨rfl, h4⟩
  have H4 := Lib.hid h4
  clear h4
  go_wp2_with fail
  go_end0
  refine ⟨⟨_, rfl⟩, ?_⟩
  have h3 := H4.out
  rw [cat_list] at h3
  simpa using h3
end Go.Proofs.YtpldbgdhflmjhaaDoor

/- pack: sizes that are read from behind; where the entries stand. -/
namespace Go.Proofs.YtpldbgdhflmjhaaDoor
set_option linter.unusedVariables false
set_option linter.unusedSimpArgs false
open Go.RowKit
/-- The low groups of a size, each with its mark. -/
def flB : Nat → Nat → List UInt8
  | 0, _ => []
  | k + 1, n => UInt8.ofNat (128 + n / 128 ^ k % 128) :: flB k n
@[simp] theorem flB_length : ∀ k n, (flB k n).length = k
  | 0, _ => rfl
  | k + 1, n => by simp [flB, flB_length k]
theorem flB_snoc : ∀ k n, flB (k + 1) n = flB k (n / 128) ++ [UInt8.ofNat (128 + n % 128)]
  | 0, n => by simp [flB]
  | k + 1, n => by
    rw [flB, flB_snoc k n, flB, List.cons_append, Nat.div_div_eq_div_mul, Nat.pow_succ, Nat.mul_comm 128]
theorem backF_eq : ∀ (f k n : Nat), n < 128 ^ (k + 1) → (k = 0 ∨ 128 ^ k ≤ n) → k < f → backF f n = UInt8.ofNat (n / 128 ^ k) :: flB k n
  | 0, k, n, _, _, h => by omega
  | f + 1, k, n, h1, h2, h3 => by
    unfold backF
    by_cases hn : n < 128
    · rw [if_pos hn]
      have : k = 0 := by
        rcases h2 with h | h
        · exact h
        · cases k with
          | zero => rfl
          | succ k =>
            have : 128 ^ 1 ≤ 128 ^ (k + 1) := Nat.pow_le_pow_right (by omega) (by omega)
            omega
      subst this
      simp [flB]
    · rw [if_neg hn]
      cases k with
      | zero => simp at h1; omega
      | succ k =>
        rw [backF_eq f k (n / 128) (by rw [Nat.pow_succ] at h1; omega) (by
          rcases h2 with h | h
          · omega
          · rw [Nat.pow_succ] at h; exact .inr (by omega)) (by omega), List.cons_append, ← flB_snoc, Nat.div_div_eq_div_mul, Nat.pow_succ, Nat.mul_comm 128]
theorem groups (n : Nat) (h : n < 34359738368) : ∃ k, k < 5 ∧ n < 128 ^ (k + 1) ∧ (k = 0 ∨ 128 ^ k ≤ n) := by
  by_cases h1 : n < 128
  · exact ⟨0, by omega, by omega, .inl rfl⟩
  · by_cases h2 : n < 16384
    · exact ⟨1, by omega, by omega, .inr (by omega)⟩
    · by_cases h3 : n < 2097152
      · exact ⟨2, by omega, by omega, .inr (by omega)⟩
      · by_cases h4 : n < 268435456
        · exact ⟨3, by omega, by omega, .inr (by omega)⟩
        · exact ⟨4, by omega, by omega, .inr (by omega)⟩
theorem backL_eq {n k : Nat} (h1 : n < 128 ^ (k + 1)) (h2 : k = 0 ∨ 128 ^ k ≤ n) (h3 : k < 5) : backL n = UInt8.ofNat (n / 128 ^ k) :: flB k n := backF_eq 5 k n h1 h2 h3
theorem backL_length (n : Nat) (h : n < 34359738368) : 1 ≤ (backL n).length ∧ (backL n).length ≤ 5 := by
  obtain ⟨k, h1, h2, h3⟩ := groups n h
  rw [backL_eq h2 h3 h1]
  simp; omega
theorem flB_get : ∀ (k n i : Nat), i < k → (flB k n)[k - 1 - i]? = some (UInt8.ofNat (128 + n / 128 ^ i % 128))
  | 0, n, i, h => by omega
  | k + 1, n, i, h => by
    unfold flB
    by_cases hi : i = k
    · subst hi; simp
    · rw [show k + 1 - 1 - i = (k - 1 - i) + 1 by omega, List.getElem?_cons_succ]
      exact flB_get k n i (by omega)
/-- The byte of a size that is the i-th from behind. -/
theorem back_get {n k : Nat} (h1 : n < 128 ^ (k + 1)) (h2 : k = 0 ∨ 128 ^ k ≤ n) (h3 : k < 5) {i : Nat} (hi : i ≤ k) : (backL n)[k - i]? = some (UInt8.ofNat (n / 128 ^ i % 128 + if i = k then 0 else 128)) := by
  rw [backL_eq h1 h2 h3]
  by_cases h : i = k
  · subst h
    rw [Nat.sub_self, List.getElem?_cons_zero, if_pos rfl, Nat.add_zero, Nat.mod_eq_of_lt]
    rw [Nat.pow_succ] at h1
    exact Nat.div_lt_of_lt_mul h1
  · rw [show k - i = (k - 1 - i) + 1 by omega, List.getElem?_cons_succ, flB_get k n i (by omega), if_neg h, Nat.add_comm]
/-! Where the entries stand. -/
theorem bodyL_nil : bodyL [] = [] := rfl
theorem bodyL_cons (s : ByteArray) (L : List ByteArray) : bodyL (s :: L) = entL s ++ bodyL L := by simp [bodyL]
theorem bodyL_append (L M : List ByteArray) : bodyL (L ++ M) = bodyL L ++ bodyL M := by simp [bodyL]
def offL (L : List ByteArray) (i : Nat) : Nat := 8 + (bodyL (L.take i)).length
theorem offL_zero (L : List ByteArray) : offL L 0 = 8 := by simp [offL, bodyL_nil]
theorem take_succ_get {α : Type} {L : List α} {i : Nat} (h : i < L.length) : L.take (i + 1) = L.take i ++ [L[i]] := by
  rw [List.take_add_one, List.getElem?_eq_getElem h]; rfl
theorem offL_succ {L : List ByteArray} {i : Nat} (h : i < L.length) : offL L (i + 1) = offL L i + (entL L[i]).length := by
  unfold offL
  rw [take_succ_get h, bodyL_append, List.length_append, bodyL_cons, bodyL_nil, List.append_nil]; omega
theorem offL_all {L : List ByteArray} {i : Nat} (h : L.length ≤ i) : offL L i = sizeP L - 1 := by
  unfold offL sizeP; rw [List.take_of_length_le h]; omega
theorem offL_mono {L : List ByteArray} {i j : Nat} (h : i ≤ j) : offL L i ≤ offL L j := by
  unfold offL
  have : L.take j = L.take i ++ (L.take j).drop i := by
    have := List.take_append_drop i (L.take j)
    rw [List.take_take, Nat.min_eq_left h] at this
    exact this.symm
  rw [this, bodyL_append, List.length_append]; omega
theorem offL_lt (L : List ByteArray) (i : Nat) : 8 ≤ offL L i ∧ offL L i + 1 ≤ sizeP L := by
  refine ⟨by unfold offL; omega, ?_⟩
  by_cases h : i ≤ L.length
  · have h1 := offL_mono (L := L) h
    have h2 := offL_all (L := L) (Nat.le_refl _)
    have : 9 ≤ sizeP L := by unfold sizeP; omega
    omega
  · have h2 := offL_all (L := L) (i := i) (by omega)
    have : 9 ≤ sizeP L := by unfold sizeP; omega
    omega
theorem packL_length (L : List ByteArray) : (packL L).length = sizeP L := by simp [packL, sizeP]; omega
theorem packL_drop (L : List ByteArray) (i : Nat) : (packL L).drop (offL L i) = bodyL (L.drop i) ++ [255] := by
  have h : bodyL L = bodyL (L.take i) ++ bodyL (L.drop i) := by rw [← bodyL_append, List.take_append_drop]
  unfold packL offL
  conv => lhs; rw [h]
  rw [show leN 4 (sizeP L) ++ (leN 4 L.length ++ ((bodyL (L.take i) ++ bodyL (L.drop i)) ++ [255])) = (leN 4 (sizeP L) ++ (leN 4 L.length ++ bodyL (L.take i))) ++ (bodyL (L.drop i) ++ [255]) by simp]
  exact List.drop_left' (by simp; omega)
theorem packL_take (L : List ByteArray) (i : Nat) : (packL L).take (offL L i) = leN 4 (sizeP L) ++ (leN 4 L.length ++ bodyL (L.take i)) := by
  have h : bodyL L = bodyL (L.take i) ++ bodyL (L.drop i) := by rw [← bodyL_append, List.take_append_drop]
  unfold packL offL
  conv => lhs; rw [h]
  rw [show leN 4 (sizeP L) ++ (leN 4 L.length ++ ((bodyL (L.take i) ++ bodyL (L.drop i)) ++ [255])) = (leN 4 (sizeP L) ++ (leN 4 L.length ++ bodyL (L.take i))) ++ (bodyL (L.drop i) ++ [255]) by simp]
  exact List.take_left' (by simp; omega)
theorem packL_head (L : List ByteArray) : (packL L).take 4 = leN 4 (sizeP L) := by
  unfold packL; exact List.take_left' (by simp)
theorem packL_many (L : List ByteArray) : ((packL L).drop 4).take 4 = leN 4 L.length := by
  unfold packL; rw [List.drop_left' (by simp)]; exact List.take_left' (by simp)
theorem read_pack {L : List ByteArray} {i : Nat} (h : i < L.length) (hs : L[i].size < 16777216) : readL ((packL L).drop (offL L i)) = some (L[i], (headL L[i]).length) := by
  rw [packL_drop, List.drop_eq_getElem_cons h, bodyL_cons, entL, List.append_assoc, List.append_assoc]
  exact read_head _ hs _
theorem entL_length (s : ByteArray) (hs : s.size < 16777216) : 2 ≤ (entL s).length ∧ (entL s).length ≤ s.size + 14 := by
  have h1 := headL_length s
  have h2 := backL_length (headL s).length (by omega)
  unfold entL; rw [List.length_append]; omega
/-! Equal bytes, equal texts. -/
theorem body_inj : ∀ {L M : List ByteArray} {r t : List UInt8}, L.length = M.length → (∀ s ∈ L, s.size < 16777216) → (∀ s ∈ M, s.size < 16777216) → bodyL L ++ r = bodyL M ++ t → L = M
  | [], [], _, _, _, _, _, _ => rfl
  | s :: L, u :: M, r, t, hl, h1, h2, h => by
    rw [bodyL_cons, bodyL_cons, entL, entL, List.append_assoc, List.append_assoc, List.append_assoc, List.append_assoc] at h
    have e1 := read_head s (h1 s (by simp)) (backL (headL s).length ++ (bodyL L ++ r))
    have e2 := read_head u (h2 u (by simp)) (backL (headL u).length ++ (bodyL M ++ t))
    rw [h, e2] at e1
    cases e1
    have h := List.append_cancel_left (List.append_cancel_left h)
    rw [body_inj (by simpa using hl) (fun x hx => h1 x (by simp [hx])) (fun x hx => h2 x (by simp [hx])) h]
  | [], _ :: _, _, _, h, _, _, _ => by simp at h
  | _ :: _, [], _, _, h, _, _, _ => by simp at h
theorem pack_inj {L M : List ByteArray} (h1 : ∀ s ∈ L, s.size < 16777216) (h2 : ∀ s ∈ M, s.size < 16777216) (hL : L.length < 4294967296) (hM : M.length < 4294967296) (h : packL L = packL M) : L = M := by
  have e := congrArg (fun l => (l.drop 4).take 4) h
  simp only [packL_many] at e
  have e' := congrArg lowN e
  rw [lowN_leN, lowN_leN] at e'
  have hl : L.length = M.length := by omega
  unfold packL at h
  have h := List.append_inj_right h (by simp)
  have h := List.append_inj_right h (by simp)
  exact body_inj hl h1 h2 h
theorem lowN_append : ∀ (a b : List UInt8), lowN (a ++ b) = lowN a + 256 ^ a.length * lowN b
  | [], b => by simp [lowN]
  | c :: a, b => by
    simp only [List.cons_append, lowN, lowN_append a b, List.length_cons, Nat.pow_succ]
    rw [Nat.mul_add, Nat.add_assoc, Nat.mul_comm (256 ^ a.length) 256, Nat.mul_assoc]
theorem pack_prefix {L M : List ByteArray} {n : Nat} (hn : n = min (sizeP L) (sizeP M)) (hL : sizeP L < 4294967296) (hM : sizeP M < 4294967296) (h : (packL L).take n = (packL M).take n) : packL L = packL M := by
  have h4 : 4 ≤ n := by unfold sizeP at hn; omega
  have e := congrArg (fun l => lowN (l.take 4)) h
  simp only [List.take_take, Nat.min_eq_left h4, packL_head, lowN_leN] at e
  have e' : sizeP L = sizeP M := by omega
  rw [List.take_of_length_le (by rw [packL_length]; omega), List.take_of_length_le (by rw [packL_length]; omega)] at h
  exact h
end Go.Proofs.YtpldbgdhflmjhaaDoor

/- The document's Int says what num.Int says: plain law. -/
namespace Go.Proofs.YtpldbgdhflmjhaaDoor
set_option linter.unusedVariables false
set_option linter.unusedSimpArgs false
open Go.RowKit
def decN (acc : Nat) : List UInt8 → Option Nat
  | [] => some acc
  | c :: r => if 48 ≤ c.toNat ∧ c.toNat ≤ 57 then decN (10 * acc + (c.toNat - 48)) r else none
theorem decN_append : ∀ (l r : List UInt8) (acc : Nat), decN acc (l ++ r) = (decN acc l).bind fun v => decN v r
  | [], r, acc => rfl
  | c :: l, r, acc => by
    simp only [List.cons_append, decN]
    split
    · exact decN_append l r _
    · rfl
theorem decN_ge : ∀ (l : List UInt8) (acc v : Nat), decN acc l = some v → acc ≤ v
  | [], acc, v, h => by simp only [decN, Option.some.injEq] at h; omega
  | c :: l, acc, v, h => by
    simp only [decN] at h
    split at h
    · have := decN_ge l _ v h; omega
    · cases h
theorem decN_parse {M : Nat} (hM : M < 18446744073709551616) : ∀ (l : List UInt8) (acc v : Nat), decN acc l = some v → v ≤ M → Lib.parseUintM M acc l = .ok v
  | [], acc, v, h, _ => by simp only [decN, Option.some.injEq] at h; simp [Lib.parseUintM, h]
  | c :: l, acc, v, h, hv => by
    simp only [decN] at h
    split at h
    · next hc =>
      have := decN_ge l _ v h
      simp only [Lib.parseUintM]
      rw [if_pos hc, if_neg (by omega), if_neg (by omega), show acc * 10 + (c.toNat - 48) = 10 * acc + (c.toNat - 48) by omega]
      exact decN_parse hM l _ v h hv
    · cases h
theorem dg_nat (d : Nat) (h : d < 10) : (UInt8.ofNat (48 + d)).toNat = 48 + d := by
  simp only [UInt8.toNat_ofNat']; omega
theorem dec_stp {u : Nat} (h : 9 < u) : Lib.decDigits u = Lib.decDigits (u / 10) ++ [UInt8.ofNat (48 + u % 10)] := by rw [Lib.decDigits, dif_neg (by omega)]
theorem decN_one (acc d : Nat) (h : d < 10) : decN acc [UInt8.ofNat (48 + d)] = some (10 * acc + d) := by
  simp only [decN]
  rw [dg_nat d h, if_pos (by omega)]
  congr 1; omega
theorem decN_dec (u : Nat) : decN 0 (Lib.decDigits u) = some u := by
  induction u using Nat.strongRecOn with
  | _ u ih =>
    by_cases h : 9 < u
    · rw [dec_stp h, decN_append, ih (u / 10) (by omega), Option.bind_some, decN_one _ _ (by omega)]
      congr 1; omega
    · rw [Lib.decDigits_one (by omega), decN_one _ _ (by omega)]
      congr 1; omega
theorem dec_ne (u : Nat) : Lib.decDigits u ≠ [] := by
  intro h
  have := Lib.decDigits_length u
  have := Lib.nDigits_pos u
  rw [h] at *
  simp only [List.length_nil] at *
  omega
theorem dec_hd (u : Nat) : ∃ c, (Lib.decDigits u).head? = some c ∧ 48 ≤ c.toNat ∧ c.toNat ≤ 57 ∧ (c = 48 → u = 0 ∧ (Lib.decDigits u).length = 1) := by
  induction u using Nat.strongRecOn with
  | _ u ih =>
    by_cases h : 9 < u
    · obtain ⟨c, h1, h2, h3, h4⟩ := ih (u / 10) (by omega)
      rw [dec_stp h]
      exact ⟨c, by rw [List.head?_append, h1]; rfl, h2, h3, fun e => absurd (h4 e).1 (by omega)⟩
    · rw [Lib.decDigits_one (by omega)]
      have := dg_nat u (by omega)
      refine ⟨_, rfl, by omega, by omega, fun e => ⟨?_, rfl⟩⟩
      have h3 : (48 : UInt8).toNat = 48 := rfl
      rw [e, h3] at this
      omega
theorem decN_last {l : List UInt8} {c : UInt8} {v : Nat} (h : decN 0 (l ++ [c]) = some v) : ∃ v', decN 0 l = some v' ∧ 48 ≤ c.toNat ∧ c.toNat ≤ 57 ∧ v = 10 * v' + (c.toNat - 48) := by
  rw [decN_append] at h
  cases hp : decN 0 l with
  | none => rw [hp] at h; cases h
  | some v' =>
    rw [hp, Option.bind_some] at h
    simp only [decN] at h
    split at h
    · next hc => cases h; exact ⟨v', rfl, hc.1, hc.2, rfl⟩
    · cases h
theorem dec_can : ∀ (k : Nat) (l : List UInt8) (v : Nat), l.length = k + 1 → (1 < l.length → l.head? ≠ some 48) → decN 0 l = some v → Lib.decDigits v = l := by
  intro k
  induction k with
  | zero =>
    intro l v hl hh hp
    obtain ⟨c, rfl⟩ : ∃ c, l = [c] := List.length_eq_one_iff.1 hl
    obtain ⟨v', h1, h2, h3, h4⟩ := decN_last (l := []) hp
    simp only [decN] at h1
    cases h1
    rw [Lib.decDigits_one (by omega), show 48 + v = c.toNat by omega]
    simp
  | succ k ih =>
    intro l v hl hh hp
    have hne : l ≠ [] := fun e => by rw [e] at hl; simp at hl
    obtain ⟨l', c, rfl⟩ : ∃ l' c, l = l' ++ [c] := ⟨l.dropLast, l.getLast hne, (List.dropLast_concat_getLast hne).symm⟩
    obtain ⟨v', h1, h2, h3, h4⟩ := decN_last hp
    have hl' : l'.length = k + 1 := by simpa using hl
    have hne' : l' ≠ [] := fun e => by rw [e] at hl'; simp at hl'
    have hhd : l'.head? ≠ some 48 := fun e => hh (by simp; omega) (by rw [List.head?_append, e]; rfl)
    have hd := ih l' v' hl' (fun _ => hhd) h1
    have hv0 : v' ≠ 0 := fun e => by
      rw [e, Lib.decDigits_one (by omega)] at hd
      rw [← hd] at hhd
      exact hhd rfl
    rw [dec_stp (by omega), show v / 10 = v' by omega, hd, show 48 + v % 10 = c.toNat by omega]
    simp
theorem dec_short (u : Nat) (h : u < 10000000000000000000) : (Lib.decDigits u).length ≤ 19 := by
  rw [Lib.decDigits_length]
  rcases Nat.lt_or_ge 19 (Lib.nDigits u) with h1 | h1
  · exfalso
    have key : ∀ k u, k + 1 ≤ Lib.nDigits u → 10 ^ k ≤ u ∨ k = 0 := by
      intro k
      induction k with
      | zero => intros; exact .inr rfl
      | succ k ih =>
        intro u hu
        by_cases h : u < 10
        · rw [Lib.nDigits_small h] at hu; omega
        · rw [Lib.nDigits_big h] at hu
          rcases ih (u / 10) (by omega) with h2 | h2
          · left; rw [Nat.pow_succ]; omega
          · left; rw [h2]; omega
    rcases key 19 u (by omega) with h2 | h2
    · have : (10 : Nat) ^ 19 = 10000000000000000000 := by decide
      omega
    · omega
  · exact h1
/-- What the document's Int says. -/
def negB (l : List UInt8) : Bool := l.head? == some 45
def refIntL (l : List UInt8) : Option Int :=
  let d := if negB l then l.drop 1 else l
  if d = [] ∨ 20 < l.length ∨ (d.head? = some 48 ∧ (negB l = true ∨ 1 < l.length)) then none
  else match decN 0 d with
    | none => none
    | some v => if negB l then (if v ≤ 9223372036854775808 then some (-(v : Int)) else none) else (if v ≤ 9223372036854775807 then some (v : Int) else none)
theorem negB_dec (u : Nat) : negB (Lib.decDigits u) = false := by
  obtain ⟨c, h1, h2, h3, _⟩ := dec_hd u
  unfold negB
  rw [h1]
  rw [beq_eq_false_iff_ne]
  intro e
  cases Option.some.inj e
  have : (45 : UInt8).toNat = 45 := rfl
  omega
theorem ref_itoa (n : Int) (hn : -9223372036854775808 ≤ n ∧ n ≤ 9223372036854775807) : refIntL (Lib.itoa n) = some n := by
  unfold Lib.itoa
  split
  · next h =>
    obtain ⟨u, hu⟩ : ∃ u, n.natAbs = u := ⟨_, rfl⟩
    rw [hu]
    have h1 : negB (45 :: Lib.decDigits u) = true := by unfold negB; rfl
    obtain ⟨c, h2, h3, h4, h5⟩ := dec_hd u
    have h6 := dec_short u (by omega)
    unfold refIntL
    simp only [h1, if_true, List.drop_succ_cons, List.drop_zero]
    rw [if_neg, decN_dec]
    · simp only
      rw [if_pos (by omega)]
      congr 1; omega
    · rintro (e | e | ⟨e, _⟩)
      · exact dec_ne u e
      · simp only [List.length_cons] at e; omega
      · rw [h2] at e
        have := (h5 (Option.some.inj e)).1
        omega
  · next h =>
    obtain ⟨u, hu⟩ : ∃ u, n.toNat = u := ⟨_, rfl⟩
    rw [hu]
    have h1 := negB_dec u
    obtain ⟨c, h2, h3, h4, h5⟩ := dec_hd u
    have h6 := dec_short u (by omega)
    unfold refIntL
    simp only [h1, Bool.false_eq_true, if_false]
    rw [if_neg, decN_dec]
    · simp only
      rw [if_pos (by omega)]
      congr 1; omega
    · rintro (e | e | ⟨e, e2⟩)
      · exact dec_ne u e
      · omega
      · rw [h2] at e
        have := (h5 (Option.some.inj e)).2
        rcases e2 with e2 | e2
        · cases e2
        · omega
theorem ref_some {l : List UInt8} {n : Int} (h : refIntL l = some n) : l = Lib.itoa n ∧ -9223372036854775808 ≤ n ∧ n ≤ 9223372036854775807 := by
  unfold refIntL at h
  by_cases hb : negB l = true
  · simp only [hb, if_true] at h
    split at h
    · cases h
    · next hc =>
      have c1 := fun e => hc (.inl e)
      have c3 := fun e => hc (.inr (.inr e))
      clear hc
      split at h
      · cases h
      · next v hv =>
        split at h
        · next hle =>
          cases h
          have hcan := dec_can ((l.drop 1).length - 1) (l.drop 1) v (by have := List.length_pos_iff.2 c1; omega) (fun _ e => c3 ⟨e, .inl trivial⟩) hv
          have hl : l = 45 :: l.drop 1 := by
            cases l with
            | nil => exact absurd rfl c1
            | cons c r =>
              unfold negB at hb
              rw [List.head?_cons, beq_iff_eq] at hb
              rw [Option.some.inj hb]; rfl
          have hv0 : v ≠ 0 := fun e => by
            rw [e, Lib.decDigits_one (by omega)] at hcan
            exact c3 ⟨by rw [← hcan]; rfl, .inl trivial⟩
          refine ⟨?_, by omega, by omega⟩
          unfold Lib.itoa
          rw [if_pos (by omega), show (-(v : Int)).natAbs = v by omega, hcan]
          exact hl
        · cases h
  · have hb' : negB l = false := by simpa using hb
    simp only [hb', Bool.false_eq_true, if_false] at h
    split at h
    · cases h
    · next hc =>
      have c1 := fun e => hc (.inl e)
      have c3 := fun e => hc (.inr (.inr e))
      clear hc
      split at h
      · cases h
      · next v hv =>
        split at h
        · next hle =>
          cases h
          have hcan := dec_can (l.length - 1) l v (by have := List.length_pos_iff.2 c1; omega) (fun e1 e => c3 ⟨e, .inr e1⟩) hv
          refine ⟨?_, by omega, by omega⟩
          unfold Lib.itoa
          rw [if_neg (by omega), show ((v : Int)).toNat = v by omega, hcan]
        · cases h
theorem intS_of {n : Int} (hn : -9223372036854775808 ≤ n ∧ n ≤ 9223372036854775807) : intS (intT n) = some n := by
  have hp : Lib.parseIntB 64 (Lib.itoa n) = .ok n := by
    unfold Lib.itoa
    split
    · next h =>
      obtain ⟨u, hu⟩ : ∃ u, n.natAbs = u := ⟨_, rfl⟩
      rw [hu]
      have h1 := decN_parse (M := 18446744073709551615) (by omega) _ 0 u (decN_dec u) (by omega)
      have h2 : Lib.parseUintB 64 (Lib.decDigits u) = .ok u := by
        unfold Lib.parseUintB
        rw [if_neg (dec_ne u)]
        exact h1
      unfold Lib.parseIntB
      have h45 : (45 : UInt8).toNat = 45 := rfl
      simp only [h45, or_true, if_true, h2]
      simp only [not_true, false_and, if_false, true_and, Nat.reducePow, Nat.reduceSub]
      rw [if_neg (by omega)]
      congr 1; omega
    · next h =>
      obtain ⟨u, hu⟩ : ∃ u, n.toNat = u := ⟨_, rfl⟩
      rw [hu]
      have h1 := decN_parse (M := 18446744073709551615) (by omega) _ 0 u (decN_dec u) (by omega)
      have h2 : Lib.parseUintB 64 (Lib.decDigits u) = .ok u := by
        unfold Lib.parseUintB
        rw [if_neg (dec_ne u)]
        exact h1
      obtain ⟨c, g1, g2, g3, _⟩ := dec_hd u
      obtain ⟨r, hr⟩ : ∃ r, Lib.decDigits u = c :: r := by
        cases hd : Lib.decDigits u with
        | nil => exact absurd hd (dec_ne u)
        | cons a r => rw [hd] at g1; cases g1; exact ⟨r, rfl⟩
      rw [hr] at h2 ⊢
      unfold Lib.parseIntB
      simp only
      rw [if_neg (by omega), h2]
      simp only [show ¬ c.toNat = 45 by omega, not_false_eq_true, true_and, false_and, if_false, Nat.reducePow, Nat.reduceSub]
      rw [if_neg (by omega)]
      congr 1; omega
  unfold intS intT
  rw [strOf_data, hp]
  simp
theorem refInt_intS (s : ByteArray) : refIntL s.data.toList = intS s := by
  cases h : intS s with
  | some n =>
    have h1 := intS_range h
    have h2 := intS_text h
    have h3 := ref_itoa n h1
    rw [← h2]
    unfold intT
    rw [strOf_data]
    exact h3
  | none =>
    cases h1 : refIntL s.data.toList with
    | none => rfl
    | some n =>
      obtain ⟨e, h2⟩ := ref_some h1
      have : s = intT n := by
        unfold intT
        rw [← e, strOf_toList]
      rw [this, intS_of h2] at h
      cases h
end Go.Proofs.YtpldbgdhflmjhaaDoor

/- octets.Append; pack.back. -/
namespace Go.Proofs.YtpldbgdhflmjhaaDoor
set_option linter.unusedVariables false
set_option linter.unusedSimpArgs false
open Go.RowKit
theorem i64_and_nat (a b : Nat) (ha : a < 9223372036854775808) (hb : b < 9223372036854775808) : bits .and .i64 (a : Int) (b : Int) = ((a &&& b : Nat) : Int) := by
  have hx : a &&& b < 2 ^ 63 := Nat.and_lt_two_pow _ (by omega)
  show IntKind.i64.wrap ((BitVec.ofInt 64 (a : Int) &&& BitVec.ofInt 64 (b : Int)).toNat : Int) = _
  rw [BitVec.toNat_and, ofInt_u64 a (by omega), ofInt_u64 b (by omega), IntWalk.i64_in _ ⟨by omega, by omega⟩]
theorem i64_or_nat (a b : Nat) (ha : a < 9223372036854775808) (hb : b < 9223372036854775808) : bits .or .i64 (a : Int) (b : Int) = ((a ||| b : Nat) : Int) := by
  have hx : a ||| b < 2 ^ 63 := Nat.or_lt_two_pow (by omega) (by omega)
  show IntKind.i64.wrap ((BitVec.ofInt 64 (a : Int) ||| BitVec.ofInt 64 (b : Int)).toNat : Int) = _
  rw [BitVec.toNat_or, ofInt_u64 a (by omega), ofInt_u64 b (by omega), IntWalk.i64_in _ ⟨by omega, by omega⟩]
theorem or128 (c : Nat) (h : c < 128) : bits .or .u8 (c : Int) 128 = ((128 + c : Nat) : Int) := by
  have := u8_or_nat c 128 (by omega) (by omega)
  rw [show ((128 : Nat) : Int) = 128 from rfl] at this
  rw [this]
  have h2 := Nat.shiftLeft_add_eq_or_of_lt (i := 7) (b := c) (by omega) 1
  rw [Nat.shiftLeft_eq, Nat.one_mul] at h2
  rw [Nat.or_comm, ← h2]
theorem grp_lt (n j : Nat) : n / 128 ^ j % 128 < 128 := Nat.mod_lt _ (by omega)
end Go.Proofs.YtpldbgdhflmjhaaDoor

/- The document's whole numbers of any length: trim, of, times, compare. -/
namespace Go.Proofs.YtpldbgdhflmjhaaDoor
set_option linter.unusedVariables false
set_option linter.unusedSimpArgs false
open Go.RowKit
def u32v (n : Nat) : Value := .int .u32 (n : Int)
def valW : List Nat → Nat
  | [] => 0
  | x :: r => x + 4294967296 * valW r
theorem valW_append : ∀ (l r : List Nat), valW (l ++ r) = valW l + 4294967296 ^ l.length * valW r
  | [], r => by simp [valW]
  | x :: l, r => by
    simp only [List.cons_append, valW, List.length_cons, valW_append l r, Nat.pow_succ]
    rw [Nat.mul_add, Nat.mul_comm (4294967296 ^ l.length) 4294967296, Nat.mul_assoc, Nat.add_assoc]
def OkW (l : List Nat) : Prop := ∀ x ∈ l, x < 4294967296
def CanW (l : List Nat) : Prop := OkW l ∧ l.getLast? ≠ some 0
theorem valW_lt : ∀ {l : List Nat}, OkW l → valW l < 4294967296 ^ l.length
  | [], _ => by simp [valW]
  | x :: l, h => by
    have h1 := h x (List.mem_cons_self ..)
    have h2 := valW_lt (l := l) fun y hy => h y (List.mem_cons_of_mem _ hy)
    simp only [valW, List.length_cons, Nat.pow_succ]
    omega
theorem valW_ge {l : List Nat} (h : CanW l) (hne : l ≠ []) : 4294967296 ^ (l.length - 1) ≤ valW l := by
  have e := (List.dropLast_concat_getLast hne)
  have hl : l.getLast hne ≠ 0 := fun e => h.2 (by rw [List.getLast?_eq_some_getLast hne, e])
  rw [← e, valW_append]
  simp only [valW, List.length_append, List.length_singleton, Nat.add_sub_cancel]
  have := Nat.le_mul_of_pos_right (4294967296 ^ l.dropLast.length) (Nat.pos_of_ne_zero hl)
  rw [Nat.mul_zero, Nat.add_zero]
  omega
theorem can_len {l : List Nat} (h : CanW l) (hv : valW l < 79228162514264337593543950336) : l.length ≤ 3 := by
  rcases Nat.lt_or_ge 3 l.length with h1 | h1
  · exfalso
    have h2 := valW_ge h (fun e => by rw [e] at h1; simp at h1)
    have h3 := Nat.pow_le_pow_right (n := 4294967296) (by omega) (show 3 ≤ l.length - 1 by omega)
    have : (4294967296 : Nat) ^ 3 = 79228162514264337593543950336 := by decide
    omega
  · exact h1
abbrev W32 (w : World) (B : Nat) (v : Value) (xs : List Nat) : Prop := SliceIs w B 49 v xs.length (xs.map u32v)
theorem take_last {xs : List Nat} {k : Nat} (hk : k < xs.length) (h0 : xs[k] = 0) : valW (xs.take k) = valW (xs.take (k + 1)) := by
  rw [List.take_succ_eq_append_getElem hk, valW_append, h0]
  simp [valW]
end Go.Proofs.YtpldbgdhflmjhaaDoor

/- times ten, of. -/
namespace Go.Proofs.YtpldbgdhflmjhaaDoor
set_option linter.unusedVariables false
set_option linter.unusedSimpArgs false
open Go.RowKit
theorem info_u32 : (Tryd.prog.info? 49).map (fun i => (i.zero, i.size, i.bytes)) = some (some (.int .u32 0), 1, 4) := by kernel_rfl
theorem OkW.push {l : List Nat} (h : OkW l) {x : Nat} (hx : x < 4294967296) : OkW (l ++ [x]) := fun y hy => by
  rcases List.mem_append.1 hy with h1 | h1
  · exact h y h1
  · rw [List.mem_singleton.1 h1]; exact hx
theorem times_step {ys xs : List Nat} {k c b add : Nat} (hl : ys.length = k) (hv : valW ys + 4294967296 ^ k * c = valW (xs.take k) * 10 + add) (hk : k < xs.length) (hb : xs[k] = b) :
    valW (ys ++ [(c + b * 10) % 4294967296]) + 4294967296 ^ (k + 1) * ((c + b * 10) / 4294967296) = valW (xs.take (k + 1)) * 10 + add := by
  rw [List.take_succ_eq_append_getElem hk, valW_append, valW_append, hb, hl, List.length_take, Nat.min_eq_left (by omega), Nat.pow_succ]
  simp only [valW, Nat.mul_zero, Nat.add_zero]
  obtain ⟨P, hP⟩ : ∃ P, 4294967296 ^ k = P := ⟨_, rfl⟩
  rw [hP] at hv ⊢
  have e := Nat.mod_add_div (c + b * 10) 4294967296
  obtain ⟨q, hq⟩ : ∃ q, (c + b * 10) / 4294967296 = q := ⟨_, rfl⟩
  obtain ⟨r, hr⟩ : ∃ r, (c + b * 10) % 4294967296 = r := ⟨_, rfl⟩
  rw [hq, hr] at e ⊢
  have e2 : P * (r + 4294967296 * q) = P * c + P * (b * 10) := by rw [e, Nat.mul_add]
  rw [Nat.mul_add] at e2
  rw [Nat.mul_assoc P 4294967296 q, Nat.add_mul, Nat.mul_assoc P b 10]
  omega
end Go.Proofs.YtpldbgdhflmjhaaDoor

/- of, compare, digit, whole, IntText. -/
namespace Go.Proofs.YtpldbgdhflmjhaaDoor
set_option linter.unusedVariables false
set_option linter.unusedSimpArgs false
open Go.RowKit
theorem valW_split (l : List Nat) {k : Nat} (hk : k < l.length) : valW l = valW (l.take k) + 4294967296 ^ k * (l[k] + 4294967296 * valW (l.drop (k + 1))) := by
  have e := List.take_append_drop k l
  rw [List.drop_eq_getElem_cons hk] at e
  have h := valW_append (l.take k) (l[k] :: l.drop (k + 1))
  rw [e, List.length_take, Nat.min_eq_left (by omega)] at h
  exact h
theorem cmp_lt {xs ys : List Nat} {k : Nat} (ox : OkW xs) (hx : k < xs.length) (hy : k < ys.length) (hd : xs.drop (k + 1) = ys.drop (k + 1)) (hlt : xs[k] < ys[k]) : valW xs < valW ys := by
  rw [valW_split xs hx, valW_split ys hy, hd]
  have h1 : valW (xs.take k) < 4294967296 ^ k := by
    have := valW_lt (l := xs.take k) fun y hy => ox y (List.mem_of_mem_take hy)
    rwa [List.length_take, Nat.min_eq_left (by omega)] at this
  obtain ⟨P, hP⟩ : ∃ P, 4294967296 ^ k = P := ⟨_, rfl⟩
  rw [hP] at h1 ⊢
  have h2 : P * (xs[k] + 1 + 4294967296 * valW (ys.drop (k + 1))) ≤ P * (ys[k] + 4294967296 * valW (ys.drop (k + 1))) := Nat.mul_le_mul_left _ (by omega)
  rw [show xs[k] + 1 + 4294967296 * valW (ys.drop (k + 1)) = (xs[k] + 4294967296 * valW (ys.drop (k + 1))) + 1 by omega, Nat.mul_add, Nat.mul_one] at h2
  omega
theorem cmp_len {xs ys : List Nat} (cx : OkW xs) (cy : CanW ys) (h : xs.length < ys.length) : valW xs < valW ys := by
  have h1 := valW_lt cx
  have h2 := valW_ge cy (fun e => by rw [e] at h; simp at h)
  have h3 := Nat.pow_le_pow_right (n := 4294967296) (by omega) (show xs.length ≤ ys.length - 1 by omega)
  omega
def CmpR (xs ys : List Nat) (e : Ending) : Prop := ∃ c : Int, e = .returned (.int .i64 c) ∧ (0 < c ↔ valW ys < valW xs)
end Go.Proofs.YtpldbgdhflmjhaaDoor

/- digit, whole, IntText. -/
namespace Go.Proofs.YtpldbgdhflmjhaaDoor
set_option linter.unusedVariables false
set_option linter.unusedSimpArgs false
open Go.RowKit
def isDig (c : UInt8) : Bool := decide (48 ≤ c.toNat ∧ c.toNat ≤ 57)
theorem digs_at : ∀ d, d < 10 → ({ data := #[48, 49, 50, 51, 52, 53, 54, 55, 56, 57] } : ByteArray).extract d (d + 1) = ⟨#[UInt8.ofNat (48 + d)]⟩
  | 0, _ => by decide
  | 1, _ => by decide
  | 2, _ => by decide
  | 3, _ => by decide
  | 4, _ => by decide
  | 5, _ => by decide
  | 6, _ => by decide
  | 7, _ => by decide
  | 8, _ => by decide
  | 9, _ => by decide
  | d + 10, h => by omega
theorem dec_len20 (u : Nat) (h : u < 10000000000000000000) : (Lib.decDigits u).length ≤ 20 := Nat.le_trans (dec_short u h) (by omega)
theorem str_len (t : ByteArray) : t.data.toList.length = t.size := Array.length_toList
set_option maxHeartbeats 1600000 in
set_option maxRecDepth 100000 in
theorem whole_doc (u : Nat) (hu : u < 10000000000000000000) (w : World) :
    Calls Tryd.prog 66 #[.int .u64 (u : Int)] w fun e w' => e = .returned (.string (strOf (Lib.decDigits u))) ∧ Below w.heap.size w w' := by
  have HU := Lib.hid (And.intro hu trivial)
  clear hu
  go_enter Tryd.func66, Tryd.ntmps66
  go_wp2_with fail
  go_loopw [0, 3] (fun a b wr => ∃ (m : Nat) (t : ByteArray), a = .int .u64 m ∧ b = .string t ∧ Hid ((m ≤ u ∧ Lib.decDigits u = Lib.decDigits m ++ t.data.toList) ∧ Below w.heap.size w wr)) (fun a _ _ => (intOf a).toNat)
  case atStart => exact ⟨u, ⟨#[]⟩, rfl, rfl, Lib.hid ⟨⟨Nat.le_refl _, by simp⟩, Below.refl _ _⟩⟩
  case round =>
    obtain ⟨m, t, rfl, rfl, hI⟩ := hrel
    have hts : t.size ≤ 20 := by
      have h1 := congrArg List.length hI.out.1.2
      rw [List.length_append, str_len] at h1
      have h2 := dec_len20 u HU.out.1
      omega
    have hm64 : m < 10000000000000000000 := Nat.lt_of_le_of_lt hI.out.1.1 HU.out.1
    obtain ⟨d, hd⟩ : ∃ d, m % 10 = d := ⟨_, rfl⟩
    obtain ⟨q, hq⟩ : ∃ q, m / 10 = q := ⟨_, rfl⟩
    have hd10 : d < 10 := by omega
    have hmod : (m : Int) % 10 = (d : Int) := by omega
    have hdiv : (m : Int) / 10 = (q : Int) := by omega
    have HD := Lib.hid (And.intro hd (And.intro hq hd10))
    clear hd hq
    obtain ⟨t1, ht1⟩ : ∃ t1, ({ data := #[48, 49, 50, 51, 52, 53, 54, 55, 56, 57] } : ByteArray).extract d (d + 1) = t1 := ⟨_, rfl⟩
    have hsl : ∀ x : World, (Instr.slice 9 (.string { data := #[48, 49, 50, 51, 52, 53, 54, 55, 56, 57] }) (some (.int .i64 (d : Int))) (some (.int .i64 ((d : Int) + 1))) none).run Tryd.prog x = .ok (.string t1) x := fun x => by
      rw [run_slice_string x 9 _ .i64 .i64 (d : Int) ((d : Int) + 1) Tryd.underlying9 (by omega) (by omega) (by show (d : Int) + 1 ≤ 10; omega), ← ht1]
      rfl
    have HT1 := Lib.hid ht1
    have ht1s : t1.size = 1 := by rw [← ht1, digs_at d hd10]; rfl
    clear ht1
    by_cases hlt : q = 0
    · subst hlt
      have hres : t1 ++ t = strOf (Lib.decDigits u) := by
        rw [← HT1.out, digs_at d hd10]
        apply ByteArray.ext
        apply Array.toList_inj.1
        rw [ByteArray.data_append, strOf_data]
        have := HD.out
        rw [hI.out.1.2, Lib.decDigits_one (by omega), show m = d by omega]
        simp
      have HRs := Lib.hid hres
      clear hres
      go_wp2_with fail
      go_ret
      exact ⟨by rw [← HRs.out]; first | rfl | trivial, hI.out.2⟩
    · have hq0 : ((q : Int) == 0) = false := by simp; omega
      obtain ⟨t2, ht2⟩ : ∃ t2, t1 ++ t = t2 := ⟨_, rfl⟩
      have HN := Lib.hid (show q ≤ u ∧ Lib.decDigits u = Lib.decDigits q ++ t2.data.toList by
        have h1 := HD.out
        refine ⟨by have := hI.out.1.1; omega, ?_⟩
        rw [← ht2, ← HT1.out, digs_at d hd10, hI.out.1.2, dec_stp (u := m) (by omega), h1.1, h1.2.1, ByteArray.data_append]
        simp)
      have HT := Lib.hid ht2
      have hqm := HD.out
      clear ht2
      go_wp2_with fail
      rw [HT.out]
      go_roundw
      case rel => exact ⟨q, t2, rfl, rfl, Lib.hid ⟨HN.out, hI.out.2⟩⟩
      case measure => simp [intOf]; omega
set_option maxHeartbeats 800000 in
set_option maxRecDepth 100000 in
theorem refIntText (n : Int) (hn : -9223372036854775808 ≤ n ∧ n ≤ 9223372036854775807) (w : World) :
    Calls Tryd.prog 52 #[.int .i64 n] w fun e w' => e = .returned (.string (intT n)) ∧ Below w.heap.size w w' := by
  obtain ⟨u, hu⟩ : ∃ u, n.natAbs = u := ⟨_, rfl⟩
  have hw := fun w' => whole_doc u (by omega) w'
  have hds : (strOf (Lib.decDigits u)).size ≤ 20 := by rw [strOf_size]; exact dec_len20 u (by omega)
  have HE := Lib.hid (show intT n = strOf (if n < 0 then 45 :: Lib.decDigits u else Lib.decDigits u) by
    unfold intT Lib.itoa
    split
    · rw [hu]
    · rw [show n.toNat = u by omega])
  obtain ⟨ds, hde⟩ : ∃ ds, strOf (Lib.decDigits u) = ds := ⟨_, rfl⟩
  rw [hde] at hw hds
  have hdl : Lib.decDigits u = ds.data.toList := by rw [← hde, strOf_data]
  rw [hdl] at HE
  have HW := Lib.hid hw
  clear hw hde hdl
  by_cases h : n < 0
  · have h1 : decide (n < 0) = true := by simp [h]
    have h2 : IntKind.u64.wrap n = n + 18446744073709551616 := by rw [IntKind.wrap_u64]; omega
    have h3 : IntKind.u64.wrap (-(n + 18446744073709551616)) = (u : Int) := by rw [IntKind.wrap_u64]; omega
    have HR := Lib.hid (show ({ data := #[45] } : ByteArray) ++ ds = intT n by
      rw [HE.out, if_pos h]
      apply ByteArray.ext
      apply Array.toList_inj.1
      rw [ByteArray.data_append, strOf_data]
      simp)
    clear hu
    go_enter Tryd.func52, Tryd.ntmps52
    go_wp2_with fail
    refine (HW.out _).mono ?_
    rintro e w' ⟨rfl, hb⟩
    have HB := Lib.hid hb
    clear hb
    go_wp2_with fail
    go_ret
    exact ⟨by rw [← HR.out]; first | rfl | trivial, HB.out⟩
  · have h1 : decide (n < 0) = false := by simp; omega
    have h2 : IntKind.u64.wrap n = (u : Int) := by rw [IntKind.wrap_u64]; omega
    have HR := Lib.hid (show ({ data := #[] } : ByteArray) ++ ds = intT n by
      rw [HE.out, if_neg h]
      apply ByteArray.ext
      apply Array.toList_inj.1
      rw [ByteArray.data_append, strOf_data]
      simp)
    clear hu
    go_enter Tryd.func52, Tryd.ntmps52
    go_wp2_with fail
    refine (HW.out _).mono ?_
    rintro e w' ⟨rfl, hb⟩
    have HB := Lib.hid hb
    clear hb
    go_wp2_with fail
    go_ret
    exact ⟨by rw [← HR.out]; first | rfl | trivial, HB.out⟩
end Go.Proofs.YtpldbgdhflmjhaaDoor

/- The document's put: bytes behind a slice. -/
namespace Go.Proofs.YtpldbgdhflmjhaaDoor
set_option linter.unusedVariables false
set_option linter.unusedSimpArgs false
open Go.RowKit
/-- Bytes were put behind a slice of them. -/
def Behind (w : World) (v : Value) (xs : List UInt8) (w' : World) (v' : Value) : Prop :=
  SliceIs w' 0 5 v' xs.length (xs.map u8v) ∧ Chg (fun k => vblock v = some k) w w' ∧ (vblock v' = vblock v ∨ ∃ k, vblock v' = some k ∧ w.heap.size ≤ k)
theorem Behind.after {w w1 w' : World} {v v' : Value} {xs : List UInt8} (hb : Below w.heap.size w w1) (h : Behind w1 v xs w' v') : Behind w v xs w' v' :=
  ⟨h.1, (Chg.of_below _ hb).trans h.2.1 fun k hk _ => hk, h.2.2.imp id fun ⟨k, h1, h2⟩ => ⟨k, h1, Nat.le_trans hb.size h2⟩⟩
theorem Behind.andThen {w w1 w2 : World} {v v1 v2 : Value} {xs ys : List UInt8} (h : Behind w v xs w1 v1) (k : Behind w1 v1 ys w2 v2) : Behind w v ys w2 v2 := by
  refine ⟨k.1, h.2.1.trans k.2.1 fun j hj hlt => ?_, ?_⟩
  · rcases h.2.2 with e | ⟨y, e, hy⟩
    · rw [e] at hj; exact hj
    · rw [e] at hj; cases hj; omega
  · rcases k.2.2 with e | ⟨y, e, hy⟩
    · rcases h.2.2 with e2 | ⟨z, e2, hz⟩
      · exact .inl (e.trans e2)
      · exact .inr ⟨z, e.trans e2, hz⟩
    · exact .inr ⟨y, e, Nat.le_trans h.2.1.size hy⟩
theorem behind_str {w : World} {v : Value} {xs : List UInt8} (h : SliceIs w 0 5 v xs.length (xs.map u8v)) (s : ByteArray) (hs : 0 < s.size) (hb : xs.length + s.size ≤ 1000000000) :
    ∃ cap w1 v' w2, (convert 9 40 (.string s)).run Tryd.prog w = .ok (.slice (some ⟨w.heap.size, 0, none⟩) s.size cap) w1 ∧
      (Builtin.append_ #[40, 40] 40 #[v, .slice (some ⟨w.heap.size, 0, none⟩) s.size cap]).run Tryd.prog w1 = .ok v' w2 ∧ Behind w v (xs ++ s.data.toList) w2 v' := by
  obtain ⟨cap, cur, w1, h1, h2, h3, h4, h5, h6, h7⟩ := run_bytes_string (P := Tryd.prog) w 9 40 5 Tryd.underlying9 Tryd.underlying40 Tryd.underlying5 s (by omega)
  obtain ⟨i0, g1, g2, g3, g4⟩ := info_parts info_u8
  have hlen : s.data.toList.length = s.size := by rw [Array.length_toList]; rfl
  have hs1 := h.chg h7 (fun _ _ => id)
  obtain ⟨v', w2, hr, q1, q2, q3⟩ := run_append_own (P := Tryd.prog) (w := w1) (t := 40) (ty := 40) Tryd.underlying40 g1 g2 g3 g4 rfl hs1 ⟨w.heap.size, 0, none⟩ s.size cap (s.data.toList.map u8v) hs (by rw [List.length_map, hlen]) (fun j u hj => by
    rw [Addr.add_lit, Nat.zero_add]
    have hjl : j < s.size := by
      rcases Nat.lt_or_ge j s.size with h' | h'
      · exact h'
      · rw [List.getElem?_eq_none (by rw [List.length_map, hlen]; exact h')] at hj; cases hj
    refine h2.cell ?_
    have e := congrArg (fun l => l[j]?) h6
    simp only [List.getElem?_take_of_lt hjl, Array.getElem?_toList] at e
    rw [e, hj]) (fun u hu => by obtain ⟨x, _, rfl⟩ := List.mem_map.1 hu; rfl) (by unfold maxLen; omega) (by omega)
  refine ⟨cap, w1, v', w2, h1, hr, ?_, (Chg.mono h7 fun _ h _ => h.elim).trans q2 fun k hk _ => hk, q3.imp id fun ⟨k, e, hk⟩ => ⟨k, e, Nat.le_trans h7.size hk⟩⟩
  rw [List.length_append, hlen, List.map_append]
  exact q1
/-- Some bytes that stand in a row of their own, just made. -/
theorem behind_lit {w : World} {v : Value} {xs : List UInt8} (h : SliceIs w 0 5 v xs.length (xs.map u8v)) (ys : List UInt8) (hy : 0 < ys.length) (hb : xs.length + ys.length ≤ 1000000000) :
    ∃ v' w2, (Builtin.append_ #[40, 40] 40 #[v, .slice (some ⟨w.heap.size, 0, none⟩) ys.length ys.length]).run Tryd.prog (w.alloc (.cells (ys.map u8v).toArray 5)) = .ok v' w2 ∧ Behind w v (xs ++ ys) w2 v' := by
  obtain ⟨i0, g1, g2, g3, g4⟩ := info_parts info_u8
  have hb1 : Below w.heap.size w (w.alloc (.cells (ys.map u8v).toArray 5)) := (Below.refl _ _).alloc (Nat.le_refl _) _
  obtain ⟨v', w2, hr, q1, q2, q3⟩ := run_append_own (P := Tryd.prog) (w := w.alloc (.cells (ys.map u8v).toArray 5)) (t := 40) (ty := 40) Tryd.underlying40 g1 g2 g3 g4 rfl (h.below hb1) ⟨w.heap.size, 0, none⟩ ys.length ys.length (ys.map u8v) hy (by rw [List.length_map]) (fun j u hj => by
    rw [Addr.add_lit, Nat.zero_add]
    exact cell_in (heap_new _ _) (by simpa using hj)) (fun u hu => by obtain ⟨x, _, rfl⟩ := List.mem_map.1 hu; rfl) (by unfold maxLen; omega) (by omega)
  refine ⟨v', w2, hr, Behind.after hb1 ⟨?_, q2, q3⟩⟩
  rw [List.length_append, List.map_append]
  exact q1
set_option maxHeartbeats 800000 in
theorem refNum (n : Nat) (hn : n ≤ 1000000000) (w : World) : Calls Tryd.prog 33 #[.int .i64 (n : Int)] w fun e w' => e = .returned (.string (intT n)) ∧ Below w.heap.size w w' := by
  have HI := Lib.hid (refIntText (n : Int) (by omega) w)
  clear hn
  go_enter Tryd.func33, Tryd.ntmps33
  go_wp2_with fail
  refine HI.out.mono ?_
  rintro e w2 ⟨rfl, b2⟩
  have H2 := Lib.hid b2
  clear b2
  go_wp2_with fail
  go_ret
  exact ⟨rfl, H2.out⟩
end Go.Proofs.YtpldbgdhflmjhaaDoor

/- The document's put, of a reply without a list. -/
namespace Go.Proofs.YtpldbgdhflmjhaaDoor
set_option linter.unusedVariables false
set_option linter.unusedSimpArgs false
open Go.RowKit
theorem repW {w w1 : World} {k : Int} {t : ByteArray} {n : Int} {a : Option Addr} {m c : Nat} (hw1 : w1 = w.alloc (.cells #[.int .u8 k, .string t, .int .i64 n, .slice a m c] 25)) :
    Below w.heap.size w w1 ∧ w1.heap[w.heap.size]? = some (.cells #[.int .u8 k, .string t, .int .i64 n, .slice a m c] 25 (0, 0)) := by
  rw [hw1]; exact ⟨(Below.refl _ _).alloc (Nat.le_refl _) _, heap_new _ _⟩
theorem three_list (x : UInt8) (t : ByteArray) : (⟨#[x]⟩ ++ t ++ ⟨#[13, 10]⟩ : ByteArray).data.toList = x :: (t.data.toList ++ crlfB) := by
  rw [cat_list, cat_list]; simp
theorem three_size (x : UInt8) (t : ByteArray) : (⟨#[x]⟩ ++ t ++ ⟨#[13, 10]⟩ : ByteArray).size = t.size + 3 := by
  simp only [ByteArray.size_append]; show 1 + t.size + 2 = _; omega
set_option maxHeartbeats 400000 in
set_option maxRecDepth 100000 in
theorem rput_text {k : Int} (x : UInt8) (hk : (k = 1 ∧ x = 43) ∨ (k = 2 ∧ x = 45)) {w : World} {v : Value} {xs : List UInt8} (h : SliceIs w 0 5 v xs.length (xs.map u8v)) (t : ByteArray) (hlen : xs.length + 30 * (1 + t.size) ≤ 1000000000) (n : Int) (a : Option Addr) (m c : Nat) :
    Calls Tryd.prog 32 #[v, .agg #[.int .u8 k, .string t, .int .i64 n, .slice a m c]] w fun e w' => ∃ v', e = .returned v' ∧ Behind w v (xs ++ x :: (t.data.toList ++ crlfB)) w' v' := by
  obtain ⟨w1, hw1⟩ : ∃ w1, w1 = w.alloc (.cells #[.int .u8 k, .string t, .int .i64 n, .slice a m c] 25) := ⟨_, rfl⟩
  obtain ⟨hb1, k1⟩ := repW hw1
  obtain ⟨cap, w2, v', w3, hcv, hap, hbe⟩ := behind_str (h.below hb1) (⟨#[x]⟩ ++ t ++ ⟨#[13, 10]⟩) (by rw [three_size]; omega) (by rw [three_size]; omega)
  have hE := Behind.after hb1 hbe
  rw [three_list] at hE
  have HE := Lib.hid hE
  obtain ⟨va, vn, vc, rfl⟩ : ∃ a n c, v = .slice a n c := by obtain ⟨a, c, e, _⟩ := h.arg; exact ⟨_, _, _, e⟩
  obtain ⟨va', vn', vc', rfl⟩ : ∃ a n c, v' = .slice a n c := by obtain ⟨a, c, e, _⟩ := hbe.1.arg; exact ⟨_, _, _, e⟩
  obtain ⟨N, hN⟩ : ∃ N, (⟨#[x]⟩ ++ t ++ ⟨#[13, 10]⟩ : ByteArray).size = N := ⟨_, rfl⟩
  rw [hN] at hcv hap
  rw [hw1] at hcv
  rw [hw1, World.size_alloc] at hap
  rw [World.size_alloc] at hcv
  have HA := Lib.hid hap
  have ht6 : t.size ≤ 1000000000 := by omega
  clear hb1 k1 h hap hbe hE hw1 hlen hN
  rcases hk with ⟨rfl, rfl⟩ | ⟨rfl, rfl⟩
  all_goals
    go_enter Tryd.func32, Tryd.ntmps32
    go_wp2_with (at_builtin; refine wpList_append_run rfl rfl HA.out ?_)
    go_ret
    exact ⟨_, rfl, HE.out⟩
end Go.Proofs.YtpldbgdhflmjhaaDoor

/- The document's put, of a number, of nothing, of bytes. -/
namespace Go.Proofs.YtpldbgdhflmjhaaDoor
set_option linter.unusedVariables false
set_option linter.unusedSimpArgs false
open Go.RowKit
set_option maxHeartbeats 800000 in
set_option maxRecDepth 100000 in
theorem rput_num {w : World} {v : Value} {xs : List UInt8} (h : SliceIs w 0 5 v xs.length (xs.map u8v)) (t : ByteArray) (hlen : xs.length ≤ 900000000) (n : Int) (hn : -9223372036854775808 ≤ n ∧ n ≤ 9223372036854775807) (a : Option Addr) (m c : Nat) :
    Calls Tryd.prog 32 #[v, .agg #[.int .u8 3, .string t, .int .i64 n, .slice a m c]] w fun e w' => ∃ v', e = .returned v' ∧ Behind w v (xs ++ 58 :: (Lib.itoa n ++ crlfB)) w' v' := by
  obtain ⟨w1, hw1⟩ : ∃ w1, w1 = w.alloc (.cells #[.int .u8 3, .string t, .int .i64 n, .slice a m c] 25) := ⟨_, rfl⟩
  obtain ⟨hb1, k1⟩ := repW hw1
  have HI := Lib.hid (refIntText n hn w1)
  have hn21 := intT_len hn
  obtain ⟨s, hs⟩ : ∃ s, intT n = s := ⟨_, rfl⟩
  rw [hs] at HI hn21
  have HS := Lib.hid (show s.data.toList = Lib.itoa n by rw [← hs]; rfl)
  obtain ⟨va, vn, vc, rfl⟩ : ∃ a n c, v = .slice a n c := by obtain ⟨a, c, e, _⟩ := h.arg; exact ⟨_, _, _, e⟩
  have HH := Lib.hid (And.intro h (And.intro hb1 hlen))
  have HW := Lib.hid hw1
  clear hb1 k1 h hw1 hlen hn hs
  go_enter Tryd.func32, Tryd.ntmps32
  go_wp2_with fail
  rw [← HW.out]
  refine HI.out.mono ?_
  rintro e w2 ⟨rfl, b2⟩
  obtain ⟨cap, w3, v', w4, hcv, hap, hbe⟩ := behind_str ((HH.out.1.below HH.out.2.1).below b2) (⟨#[58]⟩ ++ s ++ ⟨#[13, 10]⟩) (by rw [three_size]; omega) (by rw [three_size]; have := HH.out.2.2; omega)
  have hE := Behind.after HH.out.2.1 (Behind.after b2 hbe)
  rw [three_list, HS.out] at hE
  have HE := Lib.hid hE
  obtain ⟨va', vn', vc', rfl⟩ : ∃ a n c, v' = .slice a n c := by obtain ⟨a, c, e, _⟩ := hbe.1.arg; exact ⟨_, _, _, e⟩
  obtain ⟨N, hN⟩ : ∃ N, (⟨#[58]⟩ ++ s ++ ⟨#[13, 10]⟩ : ByteArray).size = N := ⟨_, rfl⟩
  rw [hN] at hcv hap
  have HA := Lib.hid hap
  clear hap hbe hE hN b2
  go_wp2_with (at_builtin; refine wpList_append_run rfl rfl HA.out ?_)
  go_ret
  exact ⟨_, rfl, HE.out⟩
/-- Bytes made into bytes: the row is marked, and no more. -/
theorem lit_conv (w : World) (ys : List UInt8) (n : Nat) (hn : ys.length = n) : ∃ Wf, (convert 40 40 (.slice (some ⟨w.heap.size, 0, none⟩) n n)).run Tryd.prog (w.alloc (.cells (ys.map u8v).toArray 5)) = .ok (.slice (some ⟨w.heap.size, 0, none⟩) n n) Wf ∧ RowAt Wf w.heap.size 5 (ys.map u8v).toArray ∧ Chg (fun _ => False) w Wf := by
  obtain ⟨cur, hcur⟩ : ∃ cur, cur = (ys.map u8v).toArray := ⟨_, rfl⟩
  have hsize : cur.size = n := by rw [hcur]; simpa using hn
  rw [← hcur]
  refine ⟨(w.alloc (.cells cur 5)).freeze ⟨w.heap.size, n, none⟩ 1, ?_, ?_, ?_⟩
  · have hsh : (w.alloc (.cells cur 5)).shape? w.heap.size = some (5, n) := by
      simp only [World.shape?]
      rw [heap_new]
      simp [hsize]
    simp [convert, run_underlying (P := Tryd.prog) Tryd.underlying40, run_underlying (P := Tryd.prog) Tryd.underlying5, markStringish]
    rw [hsh]
    simp [freeze, Sem.run]
  · have hh : ((w.alloc (.cells cur 5)).freeze ⟨w.heap.size, n, none⟩ 1).heap[w.heap.size]? = some (.cells cur 5 (n, n + 1)) := by
      unfold World.freeze
      simp only [Nat.one_ne_zero, if_false, Array.getElem?_modify]
      rw [heap_new]
      simp
    exact ⟨_, fun i hi => by simp; omega, hh⟩
  · refine ⟨rfl, rfl, rfl, ?_, fun k hk _ => ?_⟩
    · unfold World.freeze; simp
    · unfold World.freeze
      simp only [Nat.one_ne_zero, if_false, Array.getElem?_modify]
      rw [Below.heap_alloc _ _ _ hk, if_neg (by omega)]
theorem behind_conv {w : World} {v : Value} {xs : List UInt8} (h : SliceIs w 0 5 v xs.length (xs.map u8v)) (ys : List UInt8) (n : Nat) (hn : ys.length = n) (hy : 0 < n) (hb : xs.length + n ≤ 1000000000) :
    ∃ Wf v' w2, (convert 40 40 (.slice (some ⟨w.heap.size, 0, none⟩) n n)).run Tryd.prog (w.alloc (.cells (ys.map u8v).toArray 5)) = .ok (.slice (some ⟨w.heap.size, 0, none⟩) n n) Wf ∧
      (Builtin.append_ #[40, 40] 40 #[v, .slice (some ⟨w.heap.size, 0, none⟩) n n]).run Tryd.prog Wf = .ok v' w2 ∧ Behind w v (xs ++ ys) w2 v' := by
  obtain ⟨Wf, h1, h2, h7⟩ := lit_conv w ys n hn
  obtain ⟨i0, g1, g2, g3, g4⟩ := info_parts info_u8
  obtain ⟨v', w2, hr, q1, q2, q3⟩ := run_append_own (P := Tryd.prog) (w := Wf) (t := 40) (ty := 40) Tryd.underlying40 g1 g2 g3 g4 rfl (h.chg h7 fun _ _ => id) ⟨w.heap.size, 0, none⟩ n n (ys.map u8v) hy (by rw [List.length_map, hn]) (fun j u hj => by
    rw [Addr.add_lit, Nat.zero_add]
    exact h2.cell (by simpa using hj)) (fun u hu => by obtain ⟨x, _, rfl⟩ := List.mem_map.1 hu; rfl) (by unfold maxLen; omega) (by omega)
  refine ⟨Wf, v', w2, h1, hr, ?_, (Chg.mono h7 fun _ h _ => h.elim).trans q2 fun k hk _ => hk, q3.imp id fun ⟨k, e, hk⟩ => ⟨k, e, Nat.le_trans h7.size hk⟩⟩
  rw [List.length_append, List.map_append, hn]
  exact q1
set_option maxHeartbeats 800000 in
set_option maxRecDepth 100000 in
theorem rput_nil {k : Int} (x : UInt8) (hk : (k = 5 ∧ x = 36) ∨ (k = 7 ∧ x = 42)) {w : World} {v : Value} {xs : List UInt8} (h : SliceIs w 0 5 v xs.length (xs.map u8v)) (t : ByteArray) (hlen : xs.length ≤ 900000000) (n : Int) (a : Option Addr) (m c : Nat) :
    Calls Tryd.prog 32 #[v, .agg #[.int .u8 k, .string t, .int .i64 n, .slice a m c]] w fun e w' => ∃ v', e = .returned v' ∧ Behind w v (xs ++ [x, 45, 49, 13, 10]) w' v' := by
  obtain ⟨w1, hw1⟩ : ∃ w1, w1 = w.alloc (.cells #[.int .u8 k, .string t, .int .i64 n, .slice a m c] 25) := ⟨_, rfl⟩
  obtain ⟨hb1, k1⟩ := repW hw1
  obtain ⟨Wf, v', w4, hcv, hap, hbe⟩ := behind_conv (h.below hb1) [x, 45, 49, 13, 10] 5 rfl (by omega) (by omega)
  have HE := Lib.hid (Behind.after hb1 hbe)
  obtain ⟨va, vn, vc, rfl⟩ : ∃ a n c, v = .slice a n c := by obtain ⟨a, c, e, _⟩ := h.arg; exact ⟨_, _, _, e⟩
  obtain ⟨va', vn', vc', rfl⟩ : ∃ a n c, v' = .slice a n c := by obtain ⟨a, c, e, _⟩ := hbe.1.arg; exact ⟨_, _, _, e⟩
  have hcv : (convert 40 40 (.slice (some ⟨w1.heap.size, 0, none⟩) 5 5)).run Tryd.prog (w1.alloc (.cells #[.int .u8 (x.toNat : Int), .int .u8 45, .int .u8 49, .int .u8 13, .int .u8 10] 5)) = .ok (.slice (some ⟨w1.heap.size, 0, none⟩) 5 5) Wf := hcv
  rw [hw1, World.size_alloc] at hcv hap
  have HA := Lib.hid hap
  clear hb1 k1 h hw1 hlen hap hbe
  rcases hk with ⟨rfl, rfl⟩ | ⟨rfl, rfl⟩
  all_goals
    simp only [show (((36 : UInt8).toNat : Nat) : Int) = 36 from rfl, show (((42 : UInt8).toNat : Nat) : Int) = 42 from rfl] at hcv
    go_enter Tryd.func32, Tryd.ntmps32
    go_wp2_with (at_builtin; refine wpList_append_run rfl rfl HA.out ?_)
    go_ret
    exact ⟨_, rfl, HE.out⟩
theorem bulk_list (s t : ByteArray) : (⟨#[36]⟩ ++ s ++ ⟨#[13, 10]⟩ ++ t ++ ⟨#[13, 10]⟩ : ByteArray).data.toList = 36 :: (s.data.toList ++ (crlfB ++ (t.data.toList ++ crlfB))) := by
  rw [cat_list, cat_list, cat_list, cat_list]; simp
theorem bulk_size (s t : ByteArray) : (⟨#[36]⟩ ++ s ++ ⟨#[13, 10]⟩ ++ t ++ ⟨#[13, 10]⟩ : ByteArray).size = s.size + t.size + 5 := by
  simp only [ByteArray.size_append]; show 1 + s.size + 2 + t.size + 2 = _; omega
set_option maxHeartbeats 800000 in
set_option maxRecDepth 100000 in
theorem rput_bulk {w : World} {v : Value} {xs : List UInt8} (h : SliceIs w 0 5 v xs.length (xs.map u8v)) (t : ByteArray) (hlen : xs.length + 30 * (1 + t.size) ≤ 1000000000) (n : Int) (a : Option Addr) (m c : Nat) :
    Calls Tryd.prog 32 #[v, .agg #[.int .u8 4, .string t, .int .i64 n, .slice a m c]] w fun e w' => ∃ v', e = .returned v' ∧ Behind w v (xs ++ 36 :: (Lib.itoa t.size ++ (crlfB ++ (t.data.toList ++ crlfB)))) w' v' := by
  obtain ⟨w1, hw1⟩ : ∃ w1, w1 = w.alloc (.cells #[.int .u8 4, .string t, .int .i64 n, .slice a m c] 25) := ⟨_, rfl⟩
  obtain ⟨hb1, k1⟩ := repW hw1
  have HI := Lib.hid (fun w => refNum t.size (by omega) w)
  have hn21 := intT_len (n := (t.size : Int)) (by omega)
  obtain ⟨s, hs⟩ : ∃ s, intT (t.size : Int) = s := ⟨_, rfl⟩
  rw [hs] at HI hn21
  have HS := Lib.hid (show s.data.toList = Lib.itoa t.size by rw [← hs]; rfl)
  obtain ⟨va, vn, vc, rfl⟩ : ∃ a n c, v = .slice a n c := by obtain ⟨a, c, e, _⟩ := h.arg; exact ⟨_, _, _, e⟩
  have HH := Lib.hid (And.intro h (And.intro hb1 hlen))
  have HW := Lib.hid hw1
  have hst : ∀ w', Below w1.heap.size w1 w' → w'.cell? ⟨w.heap.size, 1, none⟩ = some (.string t) := fun w' hb => cell_in ((hb.block _ (heap_lt k1)).trans k1) rfl
  obtain ⟨X1, f, hX1, hf, hF⟩ := classOf (fun w' => w'.cell? ⟨w.heap.size, 1, none⟩ = some (.string t)) (w := w1) (hst _ (Below.refl _ _))
  have HFa := Lib.hid (fun w' hb => hF w' (hst w' hb))
  have ht6 : t.size ≤ 1000000000 := by omega
  clear hb1 k1 h hw1 hlen hs hst hF
  go_enter Tryd.func32, Tryd.ntmps32
  go_upto_region 9 with (fail)
  rw [← HW.out]
  refine wp_region_text ⟨[4, 11, 12], [0, 13], 11⟩ (fun w' => ∃ x : X1, w' = f x) (by kernel_rfl) (by kernel_rfl) (HFa.out _ (belowN (Below.refl _ _) 1)) ?_
  refine wpC_seg true (HFa.out _ (belowN (Below.refl _ _) 1)) 1 0 _ _ (by rfl) (by rfl) ?_
  simp only [List.take_succ_cons, List.take_zero, List.drop_succ_cons, List.drop_zero, if_true, Nat.zero_add, Nat.reduceAdd]
  repeat (go_big_quiet_step (fail))
  refine wpQuiet_nil ?_
  refine wpC_seg false (HFa.out _ (belowN (Below.refl _ _) 1)) 3 1 _ _ (by rfl) (by rfl) ?_
  simp only [List.take_succ_cons, List.take_zero, List.drop_succ_cons, List.drop_zero, Bool.false_eq_true, if_false, Nat.zero_add, Nat.reduceAdd]
  repeat (go_big_quiet_step (fail))
  refine wpQuiet_nil ?_
  refine wpC_loud (by rfl) (by rfl) fun K hK => ?_
  go_wp2_with fail
  refine (HI.out _).mono ?_
  rintro e w2 ⟨rfl, b2⟩
  have H2 := Lib.hid (show Below w1.heap.size w1 w2 from (belowN (Below.refl _ _) 1).trans b2)
  refine hK _ _ (fun _ => HFa.out _ H2.out) ?_
  clear hK b2
  refine wpC_seg false (HFa.out _ H2.out) 6 5 _ _ (by rfl) (by rfl) ?_
  simp only [List.take_succ_cons, List.take_zero, List.drop_succ_cons, List.drop_zero, Bool.false_eq_true, if_false, Nat.zero_add, Nat.reduceAdd]
  repeat (go_big_quiet_step (fail))
  refine wpQuiet_nil ?_
  refine wpC_loud (by rfl) (by rfl) fun K hK => ?_
  obtain ⟨cap, w3, v', w4, hcv, hap, hbe⟩ := behind_str ((HH.out.1.below HH.out.2.1).below H2.out) (⟨#[36]⟩ ++ s ++ ⟨#[13, 10]⟩ ++ t ++ ⟨#[13, 10]⟩) (by rw [bulk_size]; omega) (by rw [bulk_size]; have := HH.out.2.2; omega)
  have hE := Behind.after HH.out.2.1 (Behind.after H2.out hbe)
  rw [bulk_list, HS.out] at hE
  have HE := Lib.hid hE
  obtain ⟨va', vn', vc', rfl⟩ : ∃ a n c, v' = .slice a n c := by obtain ⟨a, c, e, _⟩ := hbe.1.arg; exact ⟨_, _, _, e⟩
  obtain ⟨N, hN⟩ : ∃ N, (⟨#[36]⟩ ++ s ++ ⟨#[13, 10]⟩ ++ t ++ ⟨#[13, 10]⟩ : ByteArray).size = N := ⟨_, rfl⟩
  rw [hN] at hcv hap
  have HA := Lib.hid hap
  clear hap hbe hE hN hf HFa
  go_wp2_with fail
  refine hK _ _ (fun h => absurd h (by decide)) ?_
  clear hK hcv
  refine wpC_value (by rfl) (by rfl) (exec_append rfl HA.out) (fun h => absurd h (by decide)) ?_
  simp only [Act.put, List.setIfInBounds_toArray, List.set_cons_succ, List.set_cons_zero]
  refine wpC_segD 1 13 _ _ (by rfl) (by rfl) ?_
  simp only [List.take_succ_cons, List.take_zero, List.drop_succ_cons, List.drop_zero, if_true, Nat.zero_add, Nat.reduceAdd]
  repeat (go_big_quiet_step (fail))
  refine wpQuiet_nil ?_
  refine wpC_nil ?_
  go_wp2_with fail
  go_ret
  exact ⟨_, rfl, HE.out⟩
end Go.Proofs.YtpldbgdhflmjhaaDoor

/- resp.may: any reply. -/
namespace Go.Proofs.YtpldbgdhflmjhaaDoor
set_option linter.unusedVariables false
set_option linter.unusedSimpArgs false
open Go.RowKit
abbrev MayOk (r : Rep) : Prop := ∀ (d : Nat) (w : World) (v : Value), d ≤ 1000000 → RepV w r v → sizeR r ≤ 1100000 → Calls Tryd.prog 28 #[v, .int .i64 (d : Int)] w fun e w' => e = .returned (.bool (mayR d r)) ∧ Below w.heap.size w w'
set_option maxHeartbeats 1600000 in
set_option maxRecDepth 100000 in
theorem may1_of {r : Rep} (h : MayOk r) {w : World} {p d : Nat} (hd : w.cell? ⟨p, 0, none⟩ = some (.int .i64 (d : Int))) (hd1 : d + 1 ≤ 1000000) {a : Option Addr} {c : Nat} (hv : RepV w r (.agg #[.int .u8 r.k, .string r.t, .int .i64 r.n, .slice a r.l.length c])) (hs : sizeR r ≤ 1100000) :
    Calls Tryd.prog 47 #[.agg #[.int .u8 r.k, .string r.t, .int .i64 r.n, .slice a r.l.length c], .pointer (some ⟨p, 0, none⟩)] w fun e w' => e = .returned (.bool (!mayR (d + 1) r)) ∧ Below w.heap.size w w' := by
  obtain ⟨w1, hw1⟩ : ∃ w1, w1 = w.alloc (.cells #[.int .u8 r.k, .string r.t, .int .i64 r.n, .slice a r.l.length c] 25) := ⟨_, rfl⟩
  have hb1 : Below w.heap.size w w1 := by rw [hw1]; exact (Below.refl _ _).alloc (Nat.le_refl _) _
  have HC := Lib.hid (h (d + 1) w1 _ hd1 (hv.below hb1) hs)
  have HB := Lib.hid hb1
  have HW := Lib.hid hw1
  have hd' : w1.cell? ⟨p, 0, none⟩ = some (.int .i64 (d : Int)) := (hb1.cell (p := ⟨p, 0, none⟩) (World.block_lt_of_cell? w _ hd)).trans hd
  rw [hw1] at hd'
  have e1 : ((d : Int) + 1) = ((d + 1 : Nat) : Int) := by omega
  rw [← e1] at HC
  obtain ⟨x, hx⟩ : ∃ x, mayR (d + 1) r = x := ⟨_, rfl⟩
  rw [hx] at HC ⊢
  clear h hv hs hw1 hb1 e1 hx hd
  go_enter Tryd.func47, Tryd.ntmps47
  go_wp2_with fail
  rw [← HW.out]
  refine HC.out.mono ?_
  rintro e w2 ⟨rfl, b2⟩
  have H2 := Lib.hid (HB.out.trans (b2.mono HB.out.size))
  clear b2
  go_wp2_with fail
  go_ret
  exact ⟨rfl, H2.out⟩
set_option maxHeartbeats 1600000 in
set_option maxRecDepth 100000 in
theorem indexMay {l : List Rep} (ih : ∀ r ∈ l, MayOk r) {w : World} {p d : Nat} (hd : w.cell? ⟨p, 0, none⟩ = some (.int .i64 (d : Int))) (hd1 : d + 1 ≤ 1000000) {a : Option Addr} {n c : Nat} (h : RepRow w a n c l) (hs : n + sizeL l ≤ 1100000) :
    Calls Tryd.prog 63 #[.slice a n c, .func (.func 47) #[] #[.pointer (some ⟨p, 0, none⟩)]] w fun e w' => ∃ r : Int, e = .returned (.int .i64 r) ∧ decide (0 ≤ r) = !(mayL (d + 1) l) ∧ Below w.heap.size w w' := by
  have hcn := h.2.1
  have hn6 : n ≤ 1100000 := by omega
  have hl := h.1
  have hall : ∀ r ∈ l, sizeR r ≤ 1100000 := fun r hr => by have := sizeL_mem hr; omega
  have HR := Lib.hid h
  have HI := Lib.hid (And.intro ih hall)
  have HD := Lib.hid (And.intro hd (And.intro hd1 hl))
  rw [mayL_all]
  clear h ih hall hs hd hd1 hl
  go_enter Tryd.func63, Tryd.ntmps63
  go_wp2_with fail
  go_loopw [8] (fun i wr => ∃ k : Nat, k ≤ n ∧ i = .int .i64 k ∧ Hid ((l.take k).all (mayR (d + 1)) = true ∧ Below w.heap.size w wr)) (fun i _ => n - (intOf i).toNat)
  case atStart => exact ⟨0, Nat.zero_le _, rfl, Lib.hid ⟨rfl, Below.refl _ _⟩⟩
  case round =>
    obtain ⟨k, hk, rfl, hI⟩ := hrel
    by_cases hlt : k < n
    · obtain ⟨b, o, r, a', c', rfl, hr, ⟨c0, c1, c2, c3⟩, hv⟩ := (HR.out.below hI.out.2).cells hlt
      obtain ⟨hkl, hr'⟩ := List.getElem?_eq_some_iff.1 hr
      have hmem := List.mem_of_getElem? hr
      have hdr : wr.cell? ⟨p, 0, none⟩ = some (.int .i64 (d : Int)) := (hI.out.2.cell (p := ⟨p, 0, none⟩) (World.block_lt_of_cell? w _ HD.out.1)).trans HD.out.1
      have HA := Lib.hid (may1_of (HI.out.1 r hmem) hdr HD.out.2.1 hv (HI.out.2 r hmem))
      have hs : (l.take (k + 1)).all (mayR (d + 1)) = mayR (d + 1) r := by
        rw [List.take_succ_eq_append_getElem hkl, List.all_append, hI.out.1, hr']; simp
      obtain ⟨t, ht⟩ : ∃ t, mayR (d + 1) r = t := ⟨_, rfl⟩
      rw [ht] at HA hs
      have HS := Lib.hid (And.intro hs (And.intro ht hmem))
      clear hv hr hkl hr' hmem hdr hs ht
      go_wp2_with fail
      refine HA.out.mono ?_
      rintro e w2 ⟨rfl, b2⟩
      have HB2 := Lib.hid (hI.out.2.trans (b2.mono hI.out.2.size))
      clear b2 c0 c1 c2 c3
      cases t
      case' false =>
        have hany : l.all (mayR (d + 1)) = false := by
          rw [List.all_eq_false]
          exact ⟨r, HS.out.2.2, by rw [HS.out.2.1]; decide⟩
        have HY := Lib.hid hany
        clear hany
        go_wp2_with fail
        exact bodyPost_ret (results_tmp rfl _ _ _) rfl ⟨(k : Int), rfl, by rw [HY.out]; simp, HB2.out⟩
      case' true =>
        go_wp2_with fail
        go_roundw
        case rel => exact ⟨k + 1, by omega, by go_num, Lib.hid ⟨HS.out.1, HB2.out⟩⟩
        case measure => simp [intOf]; omega
    · obtain rfl : n = k := by omega
      go_wp2_with fail
      go_ret
      have h1 := hI.out.1
      rw [List.take_of_length_le (by rw [HD.out.2.2]; exact Nat.le_refl _)] at h1
      exact ⟨-1, rfl, by rw [h1]; rfl, hI.out.2⟩
set_option maxHeartbeats 800000 in
set_option maxRecDepth 100000 in
theorem containsMay {l : List Rep} (ih : ∀ r ∈ l, MayOk r) {w : World} {p d : Nat} (hd : w.cell? ⟨p, 0, none⟩ = some (.int .i64 (d : Int))) (hd1 : d + 1 ≤ 1000000) {a : Option Addr} {n c : Nat} (h : RepRow w a n c l) (hs : n + sizeL l ≤ 1100000) :
    Calls Tryd.prog 46 #[.slice a n c, .func (.func 47) #[] #[.pointer (some ⟨p, 0, none⟩)]] w fun e w' => e = .returned (.bool (!mayL (d + 1) l)) ∧ Below w.heap.size w w' := by
  have HI := Lib.hid (indexMay ih hd hd1 h hs)
  clear h ih hd hd1 hs
  go_enter Tryd.func46, Tryd.ntmps46
  go_wp2_with fail
  refine HI.out.mono ?_
  rintro e w2 ⟨r, rfl, hr, b2⟩
  have HR := Lib.hid hr
  have HB := Lib.hid b2
  clear hr b2
  go_wp2_with fail
  go_ret
  exact ⟨by rw [← HR.out]; rfl, HB.out⟩
set_option maxHeartbeats 1600000 in
set_option maxRecDepth 100000 in
theorem may_list {l : List Rep} (ih : ∀ r ∈ l, MayOk r) {w : World} (t : ByteArray) (n : Int) {a : Option Addr} {m c : Nat} (h : RepRow w a m c l) (hs : m + sizeL l ≤ 1100000) (d : Nat) (hd : d ≤ 1000000) :
    Calls Tryd.prog 28 #[.agg #[.int .u8 6, .string t, .int .i64 n, .slice a m c], .int .i64 (d : Int)] w fun e w' => e = .returned (.bool (decide (t.size = 0) && (decide (n = 0) && (decide (d < 8) && mayL (d + 1) l)))) ∧ Below w.heap.size w w' := by
  obtain ⟨w1, hw1⟩ : ∃ w1, w1 = mayW w 6 t n a m c (d : Int) := ⟨_, rfl⟩
  obtain ⟨hb1, hs1, k1, k2⟩ := mayW_facts hw1
  unfold mayW at hw1
  obtain ⟨w2, hw2⟩ : ∃ w2, w2 = w1.alloc (.cells #[.int .u8 6, .string ⟨#[]⟩, .int .i64 0, .slice none 0 0] 25) := ⟨_, rfl⟩
  obtain ⟨hb2, j1, j2, hs2⟩ := own_facts hb1 hs1 k1 hw2
  have j3 : w2.heap[w.heap.size + 1]? = some (.cells #[.int .i64 (d : Int)] 3 (0, 0)) := by rw [hw2]; exact heap_old k2 _
  by_cases h8 : d < 8
  · have e1 : decide ((8 : Int) ≤ (d : Int)) = false := decide_eq_false (by omega)
    have e1' : decide (8 ≤ d) = false := decide_eq_false (by omega)
    have HC := Lib.hid (containsMay ih (p := w.heap.size + 1) (d := d) (cell_in j3 rfl) (by omega) (h.below hb2) hs)
    have HB := Lib.hid (And.intro hb2 j1)
    obtain ⟨x, hx⟩ : ∃ x, mayL (d + 1) l = x := ⟨_, rfl⟩
    rw [hx] at HC ⊢
    obtain ⟨y, hy⟩ : ∃ y, (n == (0 : Int)) = y := ⟨_, rfl⟩
    have hy' : decide (n = 0) = y := by rw [← hy]; rfl
    rw [hy', decide_eq_true h8]
    have HW := Lib.hid hw1
    have HW2 := Lib.hid hw2
    have hmf : ∀ (fn : Fn) (first cap : Array Value) (w : World), (Instr.makeFunc fn first cap).run Tryd.prog w = .ok (.func fn first cap) w := fun _ _ _ _ => rfl
    cases x
    · clear hw1 hw2 hb1 hs1 k1 k2 hb2 j1 j2 hs2 j3 h ih hs hx h8 hd hy'
      go_enter Tryd.func28, Tryd.ntmps28
      go_wp2_with fail
      rw [← HW.out, ← HW2.out]
      refine HC.out.mono ?_
      rintro e w3 ⟨rfl, b3⟩
      have H3 := Lib.hid (HB.out.1.trans (b3.mono HB.out.1.size))
      clear b3
      go_wp2_with fail
      go_ret
      exact ⟨by simp, H3.out⟩
    · by_cases h0 : t.size = 0
      · obtain rfl : t = ⟨#[]⟩ := ByteArray.ext (Array.eq_empty_of_size_eq_zero h0)
        rw [decide_eq_true h0]
        clear hw1 hw2 hb1 hs1 k1 k2 hb2 j1 j2 hs2 j3 h ih hs hx h8 hd hy' h0
        cases y
        all_goals
          go_enter Tryd.func28, Tryd.ntmps28
          go_wp2_with fail
          rw [← HW.out, ← HW2.out]
          refine HC.out.mono ?_
          rintro e w3 ⟨rfl, b3⟩
          have j1 := (b3.block _ (heap_lt HB.out.2)).trans HB.out.2
          have z1 := cell_in j1 (i := 1) rfl
          have z2 := cell_in j1 (i := 2) rfl
          have H3 := Lib.hid (HB.out.1.trans (b3.mono HB.out.1.size))
          clear b3 j1
          go_wp2_with fail
          go_ret
          exact ⟨rfl, H3.out⟩
      · obtain ⟨g1, g2, g3, g4⟩ := empty_no h0
        rw [decide_eq_false h0]
        clear hw1 hw2 hb1 hs1 k1 k2 hb2 j1 j2 hs2 j3 h ih hs hx h8 hd hy' hy h0
        go_enter Tryd.func28, Tryd.ntmps28
        go_wp2_with fail
        rw [← HW.out, ← HW2.out]
        refine HC.out.mono ?_
        rintro e w3 ⟨rfl, b3⟩
        have j1 := (b3.block _ (heap_lt HB.out.2)).trans HB.out.2
        have z1 := cell_in j1 (i := 1) rfl
        have z2 := cell_in j1 (i := 2) rfl
        have H3 := Lib.hid (HB.out.1.trans (b3.mono HB.out.1.size))
        clear b3 j1
        go_wp2_with fail
        go_ret
        exact ⟨rfl, H3.out⟩
  · have e1 : decide ((8 : Int) ≤ (d : Int)) = true := decide_eq_true (by omega)
    have e1' : decide (8 ≤ d) = true := decide_eq_true (by omega)
    rw [decide_eq_false h8]
    clear hw1 hw2 hb1 hs1 k1 k2 hb2 j1 j2 hs2 j3 h ih hs h8 hd
    go_enter Tryd.func28, Tryd.ntmps28
    go_wp2_with fail
    go_ret
    exact ⟨by simp, (((Below.refl _ _).alloc (Nat.le_refl _) _).alloc (by simp) _).alloc (by simp; omega) _⟩
theorem may_any (r : Rep) : MayOk r := by
  induction r using Rep.ind with
  | h k t n l ih =>
    rintro d w v hd ⟨a, c, rfl, hok, hrow⟩ hs
    simp only [Rep.k, Rep.t, Rep.n, Rep.l] at *
    simp only [sizeR] at hs
    simp only [mayR]
    split
    · next h => exact may_text h t (by omega) n a l.length c d w
    · split
      · next h => subst h; exact may_int t (by omega) n a l.length c d w
      · split
        · next h => subst h; exact may_bulk t (by omega) n a l.length c d w
        · split
          · next h => exact may_nil h t (by omega) n a l.length c d w
          · split
            · next h => subst h; exact may_list ih t n hrow (by omega) d hd
            · exact may_other ⟨by assumption, by assumption, by assumption, by assumption, by assumption⟩ t (by omega) n a l.length c d w
end Go.Proofs.YtpldbgdhflmjhaaDoor

/- resp.put of a list, of any reply; resp.Encode. -/
namespace Go.Proofs.YtpldbgdhflmjhaaDoor
set_option linter.unusedVariables false
set_option linter.unusedSimpArgs false
open Go.RowKit
theorem encL_len {w : World} {a : Option Addr} {n c : Nat} {l : List Rep} (h : RepRow w a n c l) (hs : sizeL l ≤ 1100000) (k : Nat) : (encL (l.take k)).length ≤ 30 * sizeL (l.take k) := by
  have go : ∀ (m : List Rep), (∀ r ∈ m, r ∈ l) → (encL m).length ≤ 30 * sizeL m := by
    intro m
    induction m with
    | nil => intro _; simp [encL, sizeL]
    | cons r m ihm =>
      intro h2
      have hr := h2 r (by simp)
      obtain ⟨i, hi, rfl⟩ := List.getElem_of_mem hr
      have hln := h.1
      obtain ⟨b, o, r', a', c', _, h1, _, h3⟩ := h.cells (i := i) (by omega)
      rw [List.getElem?_eq_getElem hi] at h1
      cases h1
      have := sizeL_mem hr
      have h5 := encR_len _ h3 (by omega)
      have h6 := ihm (fun x hx => h2 x (by simp [hx]))
      simp only [encL, sizeL, List.length_append]
      omega
  exact go _ fun r hr => List.mem_of_mem_take hr
set_option maxHeartbeats 3200000 in
set_option maxRecDepth 100000 in
theorem put_list {l : List Rep} (ih : ∀ r ∈ l, PutOk r) {d : Nat} (hm : mayL (d + 1) l = true) {w0 w : World} (ht : Tab w0) (hb : Below w0.heap.size w0 w) {b : Nat} {p : List UInt8} {F : Nat → Prop} (h : Bldr w0.heap.size b p F w) (t : ByteArray) (n : Int) {a : Option Addr} {m c : Nat} (hrow : RepRow w0 a m c l) (hs : m + sizeL l ≤ 1100000) (hlen : p.length + 30 * (1 + (m + sizeL l)) ≤ 1000000000) :
    Calls Tryd.prog 29 #[.pointer (some ⟨b, 0, none⟩), .agg #[.int .u8 6, .string t, .int .i64 n, .slice a m c]] w fun e w' => (∃ u, e = .returned u) ∧ Wrote w0.heap.size b (p ++ 42 :: (Lib.itoa m ++ (crlfB ++ encL l))) F w w' := by
  obtain ⟨w1, hw1⟩ : ∃ w1, w1 = (w.alloc (.cells #[.pointer (some ⟨b, 0, none⟩)] 59)).alloc (.cells #[.int .u8 6, .string t, .int .i64 n, .slice a m c] 25) := ⟨_, rfl⟩
  obtain ⟨hb1, k1, k2, hs1⟩ := putW hw1
  have HP := Lib.hid (put1_any ht (hb.trans (hb1.mono hb.size)) (h.below hb1) k1 42 (m : Int) (by omega) (by omega))
  have hB1 : Below w0.heap.size w0 w1 := hb.trans (hb1.mono hb.size)
  have hn1 : ¬ F (w.heap.size) := fun hf => by have := (h.lt hf).2; omega
  have hn2 : ¬ F (w.heap.size + 1) := fun hf => by have := (h.lt hf).2; omega
  have HK := Lib.hid (show ∀ w', Chg F w1 w' → w'.cell? ⟨w.heap.size, 0, none⟩ = some (.pointer (some ⟨b, 0, none⟩)) ∧ w'.heap[w.heap.size + 1]? = some (.cells #[.int .u8 6, .string t, .int .i64 n, .slice a m c] 25 (0, 0)) ∧ Below w0.heap.size w0 w' from fun w' hc => by
    refine ⟨?_, hc.keep k2 hn2, belowChg hB1 hc hB1.size fun k hk _ => (h.lt hk).1⟩
    rw [← k1]; unfold World.cell?; rw [hc.block _ (by rw [hs1]; omega) hn1])
  have hil := Lib.itoa_length_le (m : Int) (by omega) (by omega)
  have hml : ∀ r ∈ l, mayR (d + 1) r = true := by rw [mayL_all, List.all_eq_true] at hm; exact hm
  have HE := Lib.hid (show ∀ k, (encL (l.take k)).length ≤ 30 * sizeL (l.take k) from encL_len hrow (by omega))
  have HR := Lib.hid (And.intro hrow (And.intro ht (And.intro ih hml)))
  have HL := Lib.hid (And.intro hlen (And.intro hil hs))
  have HW := Lib.hid hw1
  have HB1 := Lib.hid (And.intro hb1 hs1)
  have hmf : ∀ (fn : Fn) (first cap : Array Value) (w : World), (Instr.makeFunc fn first cap).run Tryd.prog w = .ok (.func fn first cap) w := fun _ _ _ _ => rfl
  have hm6 : m ≤ 1100000 := by omega
  have hmc := hrow.2.1
  clear hb h hw1 hb1 k1 k2 hs1 ht hil hlen hrow hs ih hm hml hB1 hn1 hn2
  go_enter Tryd.func29, Tryd.ntmps29
  go_wp2_with fail
  rw [← HW.out]
  refine HP.out.mono ?_
  rintro e w3 ⟨⟨u, rfl⟩, F3, g1, g2, g3⟩
  obtain ⟨q0, q1, q2⟩ := HK.out w3 g3
  have c3 := cell_in q1 (i := 3) rfl
  have H0 := Lib.hid (show ∃ F', Bldr w0.heap.size b (p ++ 42 :: (Lib.itoa m ++ (crlfB ++ encL (l.take 0)))) F' w3 ∧ (∀ k, F' k → F k ∨ w1.heap.size ≤ k) ∧ Chg F w1 w3 from ⟨F3, by simpa [encL] using g1, g2, g3⟩)
  clear g1 g2 g3 q0 q1 q2
  go_wp2_with fail
  go_loopw [62] (fun i wr => ∃ k : Nat, k ≤ m ∧ i = .int .i64 k ∧ Hid (∃ F', Bldr w0.heap.size b (p ++ 42 :: (Lib.itoa m ++ (crlfB ++ encL (l.take k)))) F' wr ∧ (∀ k, F' k → F k ∨ w1.heap.size ≤ k) ∧ Chg F w1 wr)) (fun i _ => m - (intOf i).toNat)
  case atStart => exact ⟨0, Nat.zero_le _, rfl, H0⟩
  case round =>
    obtain ⟨k, hk, rfl, hI⟩ := hrel
    by_cases hlt : k < m
    · obtain ⟨F', g1, g2, g3⟩ := hI.out
      obtain ⟨q0, q1, q2⟩ := HK.out wr g3
      obtain ⟨bb, o, r, a', c', rfl, hr, ⟨d0, d1, d2, d3⟩, hv⟩ := HR.out.1.cells hlt
      obtain ⟨hkl, hr'⟩ := List.getElem?_eq_some_iff.1 hr
      have hmem := List.mem_of_getElem? hr
      have ec : ∀ x v, w0.cell? ⟨bb, x, none⟩ = some v → wr.cell? ⟨bb, x, none⟩ = some v := fun x v hv => (q2.cell (p := ⟨bb, x, none⟩) (World.block_lt_of_cell? w0 _ hv)).trans hv
      have d0 := ec _ _ d0
      have d1 := ec _ _ d1
      have d2 := ec _ _ d2
      have d3 := ec _ _ d3
      have htk : l.take (k + 1) = l.take k ++ [r] := by rw [List.take_succ_eq_append_getElem hkl, hr']
      obtain ⟨w2, hw2⟩ : ∃ w2, w2 = wr.alloc (.cells #[.int .u8 r.k, .string r.t, .int .i64 r.n, .slice a' r.l.length c'] 25) := ⟨_, rfl⟩
      have hb2 : Below wr.heap.size wr w2 := by rw [hw2]; exact (Below.refl _ _).alloc (Nat.le_refl _) _
      have hq : w2.cell? ⟨w.heap.size, 0, none⟩ = some (.pointer (some ⟨b, 0, none⟩)) := (hb2.cell (p := ⟨w.heap.size, 0, none⟩) (World.block_lt_of_cell? wr _ q0)).trans q0
      rw [hw2] at hq
      have hsz : sizeL (l.take k) + sizeR r ≤ sizeL l := by
        have h1 := sizeL_append (l.take (k + 1)) (l.drop (k + 1))
        rw [List.take_append_drop, htk, sizeL_append] at h1
        simp only [sizeL] at h1
        omega
      have hC := HR.out.2.2.1 r hmem w0 w2 b _ F' _ (d + 1) (HR.out.2.2.2 r hmem) HR.out.2.1 (q2.trans (hb2.mono q2.size)) hv (g1.below hb2) (by
        have h1 := HE.out k
        have h2 := HL.out
        simp only [List.length_append, List.length_cons, List.length_nil]
        omega) (by have := HL.out.2.2; omega)
      have HC := Lib.hid (show Calls Tryd.prog 29 #[.pointer (some ⟨b, 0, none⟩), .agg #[.int .u8 r.k, .string r.t, .int .i64 r.n, .slice a' r.l.length c']] w2 fun e w' => (∃ u, e = .returned u) ∧ ∃ F', Bldr w0.heap.size b (p ++ 42 :: (Lib.itoa m ++ (crlfB ++ encL (l.take (k + 1))))) F' w' ∧ (∀ k, F' k → F k ∨ w1.heap.size ≤ k) ∧ Chg F w1 w' from hC.mono fun e w' ⟨he, hW⟩ => by
        obtain ⟨F2, f1, f2, f3⟩ := Wrote.after hb2 hW
        refine ⟨he, F2, ?_, fun x hx => ?_, g3.trans f3 fun x hx hlt => ?_⟩
        · rw [htk, encL_append]; simpa [encL] using f1
        · rcases f2 x hx with h | h
          · exact g2 x h
          · exact .inr (Nat.le_trans g3.size h)
        · rcases g2 x hx with h | h
          · exact h
          · omega)
      have HW2 := Lib.hid hw2
      clear hv hr hkl hr' hmem htk hb2 hsz hC g1 g2 g3 q0 q1 q2 hI ec hw2
      go_wp2_with fail
      rw [← HW2.out]
      refine HC.out.mono ?_
      rintro e w4 ⟨⟨u, rfl⟩, hN⟩
      have HN := Lib.hid hN
      clear hN d0 d1 d2 d3 hq
      go_wp2_with fail
      go_roundw
      case rel => exact ⟨k + 1, by omega, by go_num, HN⟩
      case measure => simp [intOf]; omega
    · obtain rfl : m = k := by omega
      obtain ⟨F', g1, g2, g3⟩ := hI.out
      rw [List.take_of_length_le (by rw [HR.out.1.1]; exact Nat.le_refl _)] at g1
      have HF := Lib.hid (show Wrote w0.heap.size b (p ++ 42 :: (Lib.itoa m ++ (crlfB ++ encL l))) F w wr from Wrote.after HB1.out.1 ⟨F', g1, g2, g3⟩)
      clear g1 g2 g3 hI hlt
      go_wp2_with fail
      go_end0
      exact ⟨⟨_, rfl⟩, HF.out⟩
theorem itoa_m1 : Lib.itoa (-1) = [45, 49] := by kernel_rfl
theorem put_any (r : Rep) : PutOk r := by
  induction r using Rep.ind with
  | h k t n l ih =>
    rintro w0 w b p F v d hm ht hb ⟨a, c, rfl, hok, hrow⟩ h hlen hs
    simp only [Rep.k, Rep.t, Rep.n, Rep.l] at *
    simp only [sizeR] at hs hlen
    simp only [mayR] at hm
    simp only [encR]
    by_cases h1 : k = 1
    · rw [if_pos h1]
      exact put_text 43 (.inl ⟨h1, rfl⟩) hb h t (by omega) n a l.length c
    · by_cases h2 : k = 2
      · rw [if_neg h1, if_pos h2]
        exact put_text 45 (.inr ⟨h2, rfl⟩) hb h t (by omega) n a l.length c
      · rw [if_neg h1, if_neg h2]
        rw [if_neg (by omega)] at hm
        by_cases h3 : k = 3
        · rw [if_pos h3]
          exact put_num 58 n n (.inl ⟨h3, rfl, rfl⟩) hok.2 ht hb h (by omega) t a l.length c
        · rw [if_neg h3] at hm ⊢
          by_cases h4 : k = 4
          · rw [if_pos h4]
            subst h4
            exact put_bulk ht hb h t (by omega) n a l.length c
          · rw [if_neg h4] at hm ⊢
            by_cases h5 : k = 5
            · rw [if_pos h5]
              rw [show ([36, 45, 49, 13, 10] : List UInt8) = 36 :: (Lib.itoa (-1) ++ crlfB) by rw [itoa_m1]; rfl]
              exact put_num 36 (-1) n (.inr (.inl ⟨h5, rfl, rfl⟩)) (by omega) ht hb h (by omega) t a l.length c
            · rw [if_neg h5]
              by_cases h7 : k = 7
              · rw [if_pos h7]
                rw [show ([42, 45, 49, 13, 10] : List UInt8) = 42 :: (Lib.itoa (-1) ++ crlfB) by rw [itoa_m1]; rfl]
                exact put_num 42 (-1) n (.inr (.inr ⟨h7, rfl, rfl⟩)) (by omega) ht hb h (by omega) t a l.length c
              · rw [if_neg h7]
                rw [if_neg (by omega)] at hm
                by_cases h6 : k = 6
                · rw [if_pos h6] at hm
                  simp only [Bool.and_eq_true, decide_eq_true_eq] at hm
                  subst h6
                  exact put_list ih hm.2.2.2 ht hb h t n hrow (by omega) (by omega)
                · rw [if_neg h6] at hm; cases hm
set_option maxHeartbeats 1600000 in
set_option maxRecDepth 100000 in
/-- resp.Encode. -/
theorem encode_any {w : World} (ht : Tab w) {r : Rep} {v : Value} (hv : RepV w r v) (hs : sizeR r ≤ 1100000) :
    Calls Tryd.prog 13 #[v] w fun e w' => e = .returned (.tuple #[.string (encS r).1, .int .i64 (encS r).2]) ∧ Below w.heap.size w w' := by
  obtain ⟨a, c, rfl, hok, hrow⟩ := id hv
  obtain ⟨w1, hw1⟩ : ∃ w1, w1 = w.alloc (.cells #[.int .u8 r.k, .string r.t, .int .i64 r.n, .slice a r.l.length c] 25) := ⟨_, rfl⟩
  have hb1 : Below w.heap.size w w1 := by rw [hw1]; exact (Below.refl _ _).alloc (Nat.le_refl _) _
  have k1 : w1.heap[w.heap.size]? = some (.cells #[.int .u8 r.k, .string r.t, .int .i64 r.n, .slice a r.l.length c] 25 (0, 0)) := by rw [hw1]; exact heap_new _ _
  have HM := Lib.hid (may_any r 0 w1 _ (by omega) (hv.below hb1) hs)
  have HW := Lib.hid hw1
  have HB := Lib.hid (And.intro hb1 k1)
  have HV := Lib.hid (And.intro ht (And.intro hv hs))
  have c0 := cell_in k1 (i := 0) rfl
  have c1 := cell_in k1 (i := 1) rfl
  have c2 := cell_in k1 (i := 2) rfl
  have c3 := cell_in k1 (i := 3) rfl
  unfold encS
  cases hm : mayR 0 r
  · rw [hm] at HM
    simp only [Bool.false_eq_true, if_false]
    clear hw1 hb1 k1 hv hs ht hok hrow hm
    go_enter Tryd.func13, Tryd.ntmps13
    go_wp2_with fail
    rw [← HW.out]
    refine HM.out.mono ?_
    rintro e w2 ⟨rfl, b2⟩
    have H2 := Lib.hid (HB.out.1.trans (b2.mono HB.out.1.size))
    clear b2
    go_wp2_with fail
    go_ret2
    exact ⟨rfl, H2.out⟩
  · rw [hm] at HM
    have HMM := Lib.hid hm
    simp only [if_true]
    clear hw1 hb1 k1 hv hs ht hok hrow hm
    go_enter Tryd.func13, Tryd.ntmps13
    go_wp2_with fail
    rw [← HW.out]
    refine HM.out.mono ?_
    rintro e w2 ⟨rfl, b2⟩
    have b12 := HB.out.1.trans (b2.mono HB.out.1.size)
    have k2 := (b2.block _ (heap_lt HB.out.2)).trans HB.out.2
    obtain ⟨w3, hw3⟩ : ∃ w3, w3 = w2.alloc (.cells #[.pointer none, .slice none 0 0] 61) := ⟨_, rfl⟩
    have hb3 : Below w.heap.size w w3 := by rw [hw3]; exact b12.alloc b12.size _
    have k3 := heap_old k2 (.cells #[.pointer none, .slice none 0 0] 61)
    have hbl : Bldr w2.heap.size w2.heap.size [] (fun k => k = w2.heap.size) w3 := by
      refine ⟨Nat.le_refl _, _, _, .inl rfl, by rw [hw3]; exact heap_new _ _, ?_, by simp [Value.ownBlock], fun k => by simp [Value.ownBlock]⟩
      exact World.ownsRow_nil w3 _ _ 1
    have b23 : Below w2.heap.size w2 w3 := by rw [hw3]; exact (Below.refl _ _).alloc (Nat.le_refl _) _
    have hP := put_any r w2 w3 w2.heap.size [] _ _ 0 HMM.out (HV.out.1.below b12) b23 (HV.out.2.1.below b12) hbl (by have := HV.out.2.2; simp; omega) HV.out.2.2
    have HP := Lib.hid hP
    have e0 := cell_in k3 (i := 0) rfl
    have e1 := cell_in k3 (i := 1) rfl
    have e2 := cell_in k3 (i := 2) rfl
    have e3 := cell_in k3 (i := 3) rfl
    have HW3 := Lib.hid hw3
    have HB3 := Lib.hid (And.intro hb3 (And.intro b12 b23))
    clear hw3 hb3 k3 hbl b23 hP b2 b12 k2
    go_wp2_with fail
    rw [← HW3.out]
    refine HP.out.mono ?_
    rintro e w4 ⟨⟨u, rfl⟩, F4, g1, g2, g3⟩
    have hstr := Tryd.Builder_String_any w2.heap.size w2.heap.size (encR r) w4 (by simpa using g1.isB) (Nat.le_trans HB3.out.2.2.size g3.size)
    have HS := Lib.hid hstr
    have HB4 := Lib.hid (belowChg HB3.out.1 g3 HB3.out.1.size fun k hk _ => by have := HB3.out.2.1.size; omega)
    clear g1 g2 g3 hstr
    go_wp2_with fail
    refine HS.out.mono ?_
    rintro e w5 ⟨rfl, b5⟩
    have HB5 := Lib.hid (HB4.out.trans (b5.mono HB3.out.2.1.size))
    clear b5
    go_wp2_with fail
    go_ret2
    exact ⟨rfl, HB5.out⟩
end Go.Proofs.YtpldbgdhflmjhaaDoor

/- The document's put of a list, of any reply; its Encode. -/
namespace Go.Proofs.YtpldbgdhflmjhaaDoor
set_option linter.unusedVariables false
set_option linter.unusedSimpArgs false
open Go.RowKit
abbrev RPutOk (r : Rep) : Prop := ∀ (w0 w : World) (v val : Value) (xs : List UInt8) (d : Nat), mayR d r = true → Below w0.heap.size w0 w → RepV w0 r val → SliceIs w 0 5 v xs.length (xs.map u8v) → (∀ k, vblock v = some k → w0.heap.size ≤ k) → xs.length + 30 * sizeR r ≤ 900000000 → sizeR r ≤ 1100000 →
  Calls Tryd.prog 32 #[v, val] w fun e w' => ∃ v', e = .returned v' ∧ Behind w v (xs ++ encR r) w' v'
set_option maxHeartbeats 1600000 in
set_option maxRecDepth 100000 in
theorem rput_list {l : List Rep} (ih : ∀ r ∈ l, RPutOk r) {d : Nat} (hm : mayL (d + 1) l = true) {w0 w : World} (hb : Below w0.heap.size w0 w) {v : Value} {xs : List UInt8} (h : SliceIs w 0 5 v xs.length (xs.map u8v)) (hv0 : ∀ k, vblock v = some k → w0.heap.size ≤ k) (t : ByteArray) (n : Int) {a : Option Addr} {m c : Nat} (hrow : RepRow w0 a m c l) (hs : m + sizeL l ≤ 1100000) (hlen : xs.length + 30 * (1 + (m + sizeL l)) ≤ 900000000) :
    Calls Tryd.prog 32 #[v, .agg #[.int .u8 6, .string t, .int .i64 n, .slice a m c]] w fun e w' => ∃ v', e = .returned v' ∧ Behind w v (xs ++ 42 :: (Lib.itoa m ++ (crlfB ++ encL l))) w' v' := by
  obtain ⟨w1, hw1⟩ : ∃ w1, w1 = w.alloc (.cells #[.int .u8 6, .string t, .int .i64 n, .slice a m c] 25) := ⟨_, rfl⟩
  obtain ⟨hb1, k1⟩ := repW hw1
  have hB1 : Below w0.heap.size w0 w1 := hb.trans (hb1.mono hb.size)
  have HI := Lib.hid (refNum m (by omega) w1)
  have hn21 := intT_len (n := (m : Int)) (by omega)
  obtain ⟨s, hs'⟩ : ∃ s, intT (m : Int) = s := ⟨_, rfl⟩
  rw [hs'] at HI hn21
  have HS := Lib.hid (show s.data.toList = Lib.itoa m by rw [← hs']; rfl)
  have HK := Lib.hid (show ∀ w', Chg (fun k => vblock v = some k) w1 w' → w'.heap[w.heap.size]? = some (.cells #[.int .u8 6, .string t, .int .i64 n, .slice a m c] 25 (0, 0)) ∧ Below w0.heap.size w0 w' from fun w' hc =>
    ⟨hc.keep k1 fun e => by have := (h.block_lt e).2; omega, belowChg hB1 hc hB1.size fun k hk _ => hv0 k hk⟩)
  have HV0 := Lib.hid (show ∀ k, vblock v = some k → w0.heap.size ≤ k ∧ k < w.heap.size from fun k hk => ⟨hv0 k hk, (h.block_lt hk).2⟩)
  have hml : ∀ r ∈ l, mayR (d + 1) r = true := by rw [mayL_all, List.all_eq_true] at hm; exact hm
  have HE := Lib.hid (show ∀ k, (encL (l.take k)).length ≤ 30 * sizeL (l.take k) from encL_len hrow (by omega))
  obtain ⟨va, vn, vc, rfl⟩ : ∃ a n c, v = .slice a n c := by obtain ⟨a, c, e, _⟩ := h.arg; exact ⟨_, _, _, e⟩
  have HR := Lib.hid (And.intro hrow (And.intro ih hml))
  have HL := Lib.hid (And.intro hlen hs)
  have HH := Lib.hid (And.intro h (And.intro hb1 hb.size))
  have HW := Lib.hid hw1
  have hm6 : m ≤ 1100000 := by omega
  have hmc := hrow.2.1
  clear hb h hw1 hb1 k1 hlen hrow hs ih hm hml hB1 hv0 hs'
  go_enter Tryd.func32, Tryd.ntmps32
  go_wp2_with fail
  rw [← HW.out]
  refine HI.out.mono ?_
  rintro e w2 ⟨rfl, b2⟩
  obtain ⟨cap, w3, v', w4, hcv, hap, hbe⟩ := behind_str ((HH.out.1.below HH.out.2.1).below b2) (⟨#[42]⟩ ++ s ++ ⟨#[13, 10]⟩) (by rw [three_size]; omega) (by rw [three_size]; have := HL.out; omega)
  have hE := Behind.after b2 hbe
  rw [three_list, HS.out] at hE
  have HE0 := Lib.hid (show Behind w1 (.slice va vn vc) (xs ++ 42 :: (Lib.itoa m ++ (crlfB ++ encL (l.take 0)))) w4 v' by simpa [encL] using hE)
  obtain ⟨va', vn', vc', rfl⟩ : ∃ a n c, v' = .slice a n c := by obtain ⟨a, c, e, _⟩ := hbe.1.arg; exact ⟨_, _, _, e⟩
  obtain ⟨N, hN⟩ : ∃ N, (⟨#[42]⟩ ++ s ++ ⟨#[13, 10]⟩ : ByteArray).size = N := ⟨_, rfl⟩
  rw [hN] at hcv hap
  have HA := Lib.hid hap
  have hil := Lib.itoa_length_le (m : Int) (by omega) (by omega)
  have HIl := Lib.hid hil
  clear hap hbe hE hN b2 hil
  go_wp2_with (at_builtin; refine wpList_append_run rfl rfl HA.out ?_)
  clear hcv
  go_loopw [0, 5] (fun v i wr => ∃ k : Nat, k ≤ m ∧ i = .int .i64 k ∧ Hid (Behind w1 (.slice va vn vc) (xs ++ 42 :: (Lib.itoa m ++ (crlfB ++ encL (l.take k)))) wr v)) (fun _ i _ => m - (intOf i).toNat)
  case atStart => exact ⟨0, Nat.zero_le _, rfl, HE0⟩
  case round =>
    obtain ⟨k, hk, rfl, hI⟩ := hrel
    obtain ⟨q1, q2⟩ := HK.out wr hI.out.2.1
    have c3 := cell_in q1 (i := 3) rfl
    obtain ⟨ka, kc, rfl, _⟩ := hI.out.1.arg
    obtain ⟨K, hK⟩ : ∃ K, (xs ++ 42 :: (Lib.itoa m ++ (crlfB ++ encL (l.take k)))).length = K := ⟨_, rfl⟩
    by_cases hlt : k < m
    · obtain ⟨bb, o, r, a', c', rfl, hr, ⟨d0, d1, d2, d3⟩, hv⟩ := HR.out.1.cells hlt
      obtain ⟨hkl, hr'⟩ := List.getElem?_eq_some_iff.1 hr
      have hmem := List.mem_of_getElem? hr
      have ec : ∀ x v, w0.cell? ⟨bb, x, none⟩ = some v → wr.cell? ⟨bb, x, none⟩ = some v := fun x v hv => (q2.cell (p := ⟨bb, x, none⟩) (World.block_lt_of_cell? w0 _ hv)).trans hv
      have d0 := ec _ _ d0
      have d1 := ec _ _ d1
      have d2 := ec _ _ d2
      have d3 := ec _ _ d3
      have htk : l.take (k + 1) = l.take k ++ [r] := by rw [List.take_succ_eq_append_getElem hkl, hr']
      have hsz : sizeL (l.take k) + sizeR r ≤ sizeL l := by
        have h1 := sizeL_append (l.take (k + 1)) (l.drop (k + 1))
        rw [List.take_append_drop, htk, sizeL_append] at h1
        simp only [sizeL] at h1
        omega
      have hC := HR.out.2.1 r hmem w0 wr _ _ _ (d + 1) (HR.out.2.2 r hmem) q2 hv hI.out.1 (fun j hj => by
        rcases hI.out.2.2 with e | ⟨y, e, hy⟩
        · rw [e] at hj; exact (HV0.out j hj).1
        · rw [e] at hj; cases hj
          have := HH.out.2.1.size; have := HH.out.2.2; omega) (by
        have h1 := HE.out k
        have h2 := HL.out
        have h3 := HIl.out
        simp only [List.length_append, List.length_cons, List.length_nil]
        omega) (by have := HL.out.2; omega)
      have hC2 : Calls Tryd.prog 32 #[.slice ka (xs ++ 42 :: (Lib.itoa m ++ (crlfB ++ encL (l.take k)))).length kc, .agg #[.int .u8 r.k, .string r.t, .int .i64 r.n, .slice a' r.l.length c']] wr fun e w' => ∃ v', e = .returned v' ∧ Behind w1 (.slice va vn vc) (xs ++ 42 :: (Lib.itoa m ++ (crlfB ++ encL (l.take (k + 1))))) w' v' := hC.mono fun e w' ⟨v2, he, hB⟩ => by
        refine ⟨v2, he, ?_⟩
        have := hI.out.andThen hB
        rw [htk, encL_append]
        simpa [encL] using this
      rw [hK] at hC2 ⊢
      have HC := Lib.hid hC2
      clear hv hr hkl hr' hmem htk hsz hC hC2 ec hI q1 q2 hK
      go_wp2_with fail
      refine HC.out.mono ?_
      rintro e w5 ⟨v5, rfl, hN⟩
      obtain ⟨na, nn, nc, rfl⟩ : ∃ a n c, v5 = .slice a n c := by obtain ⟨a, c, e, _⟩ := hN.1.arg; exact ⟨_, _, _, e⟩
      have HN := Lib.hid hN
      clear hN d0 d1 d2 d3 c3
      go_wp2_with fail
      go_roundw
      case rel => exact ⟨k + 1, by omega, by go_num, HN⟩
      case measure => simp [intOf]; omega
    · obtain rfl : m = k := by omega
      have hF := hI.out
      rw [List.take_of_length_le (by rw [HR.out.1.1]; exact Nat.le_refl _)] at hF hK ⊢
      rw [hK] at hF ⊢
      have HF := Lib.hid (Behind.after HH.out.2.1 hF)
      clear hF hI hlt hK q1 q2
      go_wp2_with fail
      go_ret
      exact ⟨_, rfl, HF.out⟩
theorem rput_any (r : Rep) : RPutOk r := by
  induction r using Rep.ind with
  | h k t n l ih =>
    rintro w0 w v val xs d hm hb ⟨a, c, rfl, hok, hrow⟩ h hv0 hlen hs
    simp only [Rep.k, Rep.t, Rep.n, Rep.l] at *
    simp only [sizeR] at hs hlen
    simp only [mayR] at hm
    simp only [encR]
    by_cases h1 : k = 1
    · rw [if_pos h1]
      exact rput_text 43 (.inl ⟨h1, rfl⟩) h t (by omega) n a l.length c
    · by_cases h2 : k = 2
      · rw [if_neg h1, if_pos h2]
        exact rput_text 45 (.inr ⟨h2, rfl⟩) h t (by omega) n a l.length c
      · rw [if_neg h1, if_neg h2]
        rw [if_neg (by omega)] at hm
        by_cases h3 : k = 3
        · rw [if_pos h3]
          subst h3
          exact rput_num h t (by omega) n hok.2 a l.length c
        · rw [if_neg h3] at hm ⊢
          by_cases h4 : k = 4
          · rw [if_pos h4]
            subst h4
            exact rput_bulk h t (by omega) n a l.length c
          · rw [if_neg h4] at hm ⊢
            by_cases h5 : k = 5
            · rw [if_pos h5]
              exact rput_nil 36 (.inl ⟨h5, rfl⟩) h t (by omega) n a l.length c
            · rw [if_neg h5]
              by_cases h7 : k = 7
              · rw [if_pos h7]
                exact rput_nil 42 (.inr ⟨h7, rfl⟩) h t (by omega) n a l.length c
              · rw [if_neg h7]
                rw [if_neg (by omega)] at hm
                by_cases h6 : k = 6
                · rw [if_pos h6] at hm
                  simp only [Bool.and_eq_true, decide_eq_true_eq] at hm
                  subst h6
                  exact rput_list ih hm.2.2.2 hb h hv0 t n hrow (by omega) (by omega)
                · rw [if_neg h6] at hm; cases hm
/-- Bytes that a slice holds, as a string. -/
theorem bytes_string {w : World} {v : Value} {xs : List UInt8} (h : SliceIs w 0 5 v xs.length (xs.map u8v)) : (convert 40 9 v).run Tryd.prog w = .ok (.string (strOf xs)) w := by
  rcases h.2 with ⟨rfl, h0⟩ | ⟨g, cap, cur, rfl, _⟩
  · have : xs = [] := List.eq_nil_of_length_eq_zero h0
    subst this
    exact run_string_nil w _ _ _ Tryd.underlying40 Tryd.underlying5 Tryd.underlying9 _ _
  · refine run_string_row w _ _ _ Tryd.underlying40 Tryd.underlying5 Tryd.underlying9 g 0 _ cap xs rfl fun i hi => ?_
    obtain ⟨b, o, e, hc⟩ := h.arg_bytes (by omega)
    cases e
    exact hc i hi
set_option maxHeartbeats 1600000 in
set_option maxRecDepth 100000 in
/-- The document's Encode. -/
theorem refEncode {w : World} {r : Rep} {v : Value} (hv : RepV w r v) (hs : sizeR r ≤ 1100000) :
    Calls Tryd.prog 14 #[v] w fun e w' => e = .returned (.tuple #[.string (encS r).1, .int .i64 (encS r).2]) ∧ Below w.heap.size w w' := by
  obtain ⟨a, c, rfl, hok, hrow⟩ := id hv
  obtain ⟨w1, hw1⟩ : ∃ w1, w1 = w.alloc (.cells #[.int .u8 r.k, .string r.t, .int .i64 r.n, .slice a r.l.length c] 25) := ⟨_, rfl⟩
  have hb1 : Below w.heap.size w w1 := by rw [hw1]; exact (Below.refl _ _).alloc (Nat.le_refl _) _
  have k1 : w1.heap[w.heap.size]? = some (.cells #[.int .u8 r.k, .string r.t, .int .i64 r.n, .slice a r.l.length c] 25 (0, 0)) := by rw [hw1]; exact heap_new _ _
  have HM := Lib.hid (rmay_any r 0 w1 _ (by omega) (hv.below hb1) hs)
  have HW := Lib.hid hw1
  have HB := Lib.hid (And.intro hb1 k1)
  have HV := Lib.hid (And.intro hv hs)
  have c0 := cell_in k1 (i := 0) rfl
  have c1 := cell_in k1 (i := 1) rfl
  have c2 := cell_in k1 (i := 2) rfl
  have c3 := cell_in k1 (i := 3) rfl
  unfold encS
  cases hm : mayR 0 r
  · rw [hm] at HM
    simp only [Bool.false_eq_true, if_false]
    clear hw1 hb1 k1 hv hs hok hrow hm
    go_enter Tryd.func14, Tryd.ntmps14
    go_wp2_with fail
    rw [← HW.out]
    refine HM.out.mono ?_
    rintro e w2 ⟨rfl, b2⟩
    have H2 := Lib.hid (HB.out.1.trans (b2.mono HB.out.1.size))
    clear b2
    go_wp2_with fail
    go_ret2
    exact ⟨rfl, H2.out⟩
  · rw [hm] at HM
    have HMM := Lib.hid hm
    simp only [if_true]
    clear hw1 hb1 k1 hv hs hok hrow hm
    go_enter Tryd.func14, Tryd.ntmps14
    go_wp2_with fail
    rw [← HW.out]
    refine HM.out.mono ?_
    rintro e w2 ⟨rfl, b2⟩
    have b12 := HB.out.1.trans (b2.mono HB.out.1.size)
    have k2 := (b2.block _ (heap_lt HB.out.2)).trans HB.out.2
    have hP := rput_any r w2 w2 (.slice none 0 0) _ [] 0 HMM.out (Below.refl _ _) (HV.out.1.below b12) (SliceIs.nil _ _ _) (fun k hk => by cases hk) (by have := HV.out.2; simp; omega) HV.out.2
    have HP := Lib.hid hP
    have e0 := cell_in k2 (i := 0) rfl
    have e1 := cell_in k2 (i := 1) rfl
    have e2 := cell_in k2 (i := 2) rfl
    have e3 := cell_in k2 (i := 3) rfl
    have HB2 := Lib.hid b12
    clear hP b2 b12 k2
    go_wp2_with fail
    refine HP.out.mono ?_
    rintro e w4 ⟨v', rfl, hB⟩
    have hcv := bytes_string hB.1
    have HB4 := Lib.hid (belowChg HB2.out hB.2.1 HB2.out.size fun k hk _ => by cases hk)
    obtain ⟨na, nn, nc, rfl⟩ : ∃ a n c, v' = .slice a n c := by obtain ⟨a, c, e, _⟩ := hB.1.arg; exact ⟨_, _, _, e⟩
    clear hB e0 e1 e2 e3
    go_wp2_with fail
    go_ret2
    exact ⟨rfl, HB4.out⟩
end Go.Proofs.YtpldbgdhflmjhaaDoor

/- Appending texts of a slice to texts that a call has made. -/
namespace Go.Proofs.YtpldbgdhflmjhaaDoor
set_option linter.unusedVariables false
set_option linter.unusedSimpArgs false
open Go.RowKit
abbrev strV (s : ByteArray) : Value := .string s
theorem run_append_none {P : Program} {w : World} {B : Nat} {e : TypeId} {v : Value} {n : Nat} {xs : List Value} {t ty : TypeId} {i : TypeInfo} (ht : P.underlying t = some (.slice e)) (hi : P.info? e = some i) (hsize : i.size = 1) (h : SliceIs w B e v n xs) (a : Option Addr) (c : Nat) :
    (Builtin.append_ #[t, t] ty #[v, .slice a 0 c]).run P w = .ok v w := by
  have hf : (Builtin.firstCells 1 0 (.slice a 0 c)).run P w = .ok #[] w := by
    cases a with
    | none => rfl
    | some A =>
      have hL := run_loadCells_list (P := P) w A [] (by simp)
      rw [List.length_nil] at hL
      simp [Builtin.firstCells, hL]
  rcases h.2 with ⟨rfl, rfl⟩ | ⟨g, cap, cur, rfl, h2, h3, h4, h5, h6, h7⟩
  · simp [Builtin.append_, run_underlying ht, sizeOf, typeInfo, hi, hsize, Builtin.lenOf, hf]
  · simp [Builtin.append_, run_underlying ht, sizeOf, typeInfo, hi, hsize, Builtin.lenOf, hf, h5, storeCells]
theorem info_str : (Tryd.prog.info? 9).map (fun i => (i.zero, i.size, i.bytes)) = some (some (.string ByteArray.empty), 1, 16) := by kernel_rfl
/-- 'append(l, m...)', l of the call's own making. -/
theorem append_texts {w : World} {B n m c : Nat} {v : Value} {xs ys : List ByteArray} {a : Option Addr} (h : SliceIs w B 9 v n (xs.map strV)) (hB : B ≤ w.heap.size) (hm : ys.length = m)
    (ha : m = 0 ∨ ∃ b o, a = some ⟨b, o, none⟩ ∧ ∀ i, i < m → w.cell? ⟨b, o + i, none⟩ = some (.string (ys.getD i ByteArray.empty))) (hs : n + m ≤ 1000000000) :
    ∃ v' w', (Builtin.append_ #[26, 26] 26 #[v, .slice a m c]).run Tryd.prog w = .ok v' w' ∧ SliceIs w' B 9 v' (n + m) ((xs ++ ys).map strV) ∧ Below B w w' := by
  obtain ⟨i0, g1, g2, g3, g4⟩ := info_parts info_str
  rcases Nat.eq_zero_or_pos m with h0 | h0
  · subst h0
    have hy : ys = [] := List.eq_nil_of_length_eq_zero hm
    subst hy
    exact ⟨v, w, run_append_none (P := Tryd.prog) Tryd.underlying26 g1 g3 h a c, by simpa using h, Below.refl _ _⟩
  · obtain ⟨b, o, rfl, hc⟩ := ha.resolve_left (by omega)
    rw [List.map_append]
    refine run_append_local (P := Tryd.prog) Tryd.underlying26 g1 g2 g3 g4 rfl h hB ⟨b, o, none⟩ m c (ys.map strV) h0 (by simp [hm]) (fun j u hu => ?_) (by simp; intro x _; rfl) (by unfold maxLen; omega) (by omega)
    rw [List.getElem?_map] at hu
    cases hb : ys[j]? with
    | none => rw [hb] at hu; cases hu
    | some s =>
      rw [hb] at hu
      obtain ⟨hj, hcj⟩ := List.getElem?_eq_some_iff.1 hb
      rw [Addr.add_lit, hc j (by omega)]
      simp only [List.getD, hb, Option.getD_some]
      simpa using hu
theorem texts_of_slice {w : World} {B n : Nat} {v : Value} {xs : List ByteArray} (h : SliceIs w B 9 v n (xs.map strV)) : ∃ a c, v = .slice a n c ∧ ArgRow w a n c (fun i => .string (xs.getD i ByteArray.empty)) := by
  obtain ⟨a, c, rfl, h1, h2⟩ := h.arg
  refine ⟨a, c, rfl, h1, h2.imp id ?_⟩
  rintro ⟨b, o, e, hc⟩
  refine ⟨b, o, e, fun i hi => ?_⟩
  have hl : xs.length = n := by simpa using h.1
  rw [hc i hi]
  simp [List.getD, show i < xs.length by omega]
end Go.Proofs.YtpldbgdhflmjhaaDoor

/- TwinTexts, LeftTexts: a copy of texts with a mark behind. -/
namespace Go.Proofs.YtpldbgdhflmjhaaDoor
set_option linter.unusedVariables false
set_option linter.unusedSimpArgs false
open Go.RowKit
theorem append_text1 {w : World} {B n : Nat} {v : Value} {xs : List ByteArray} (h : SliceIs w B 9 v n (xs.map strV)) (hB : B ≤ w.heap.size) (s : ByteArray) (hn : n + 1 ≤ 1000000000) :
    ∃ v' w', (Builtin.append_ #[26, 26] 26 #[v, .slice (some ⟨w.heap.size, 0, none⟩) 1 1]).run Tryd.prog (w.alloc (.cells #[.string s] 9)) = .ok v' w' ∧ SliceIs w' B 9 v' (n + 1) ((xs ++ [s]).map strV) ∧ Below B w w' := by
  obtain ⟨i0, g1, g2, g3, g4⟩ := info_parts info_str
  have := run_append_one (P := Tryd.prog) (t := 26) (ty := 26) Tryd.underlying26 g1 g2 g3 g4 rfl h hB (.string s) rfl (by unfold maxLen; omega) (by omega)
  rw [List.map_append]
  exact this
def spareT : ByteArray := ⟨#[115, 112, 97, 114, 101]⟩
/-- v is a copy of these texts, in a block from B on, with the mark behind it. -/
def TwinT (w : World) (B : Nat) (v : Value) (zs : List ByteArray) : Prop :=
  ∃ g cap, v = .slice (some ⟨g, 0, none⟩) zs.length cap ∧ zs.length + 1 ≤ cap ∧ SliceIs w B 9 (.slice (some ⟨g, 0, none⟩) (zs.length + 1) cap) (zs.length + 1) ((zs ++ [spareT]).map strV)
theorem TwinT.slice {w : World} {B : Nat} {v : Value} {zs : List ByteArray} (h : TwinT w B v zs) : SliceIs w B 9 v zs.length (zs.map strV) := by
  obtain ⟨g, cap, rfl, h1, h2⟩ := h
  rcases h2.2 with ⟨e, _⟩ | ⟨g', cap', cur, e, q1, q2, q3, q4, q5, q6⟩
  · cases e
  · cases e
    refine ⟨by simp, .inr ⟨g, cap, cur, rfl, q1, q2, q3, by omega, q5, ?_⟩⟩
    have h3 := congrArg (fun l => l.take zs.length) q6
    simp only [List.take_take, List.map_append] at h3
    rw [Nat.min_eq_left (by omega), List.take_left' (by simp)] at h3
    exact h3
theorem TwinT.below {w w' : World} {B : Nat} {v : Value} {zs : List ByteArray} (h : TwinT w B v zs) (hb : Below w.heap.size w w') : TwinT w' B v zs := by
  obtain ⟨g, cap, e, h1, h2⟩ := h
  exact ⟨g, cap, e, h1, h2.below hb⟩
set_option maxHeartbeats 3200000 in
set_option maxRecDepth 100000 in
theorem twinTexts_any (w : World) (a : Option Addr) (n c : Nat) (zs : List ByteArray) (hlen : zs.length = n) (ha : ArgRow w a n c fun i => .string (zs.getD i ByteArray.empty)) (hn : n ≤ 4000000) :
    Calls Tryd.prog 27 #[.slice a n c] w fun e w' => (∃ v, e = .returned v ∧ TwinT w' w.heap.size v zs) ∧ Below w.heap.size w w' := by
  obtain ⟨i0, g1, g2, g3, g4⟩ := info_parts info_str
  obtain ⟨cur0, hcur0⟩ : ∃ cur0, madeCells (Value.string ByteArray.empty).cells ((n + 1) * 1) = cur0 := ⟨_, rfl⟩
  have hmk : (Instr.makeSlice 26 (.int .i64 0) (.int .i64 ((n : Int) + 1))).run Tryd.prog w = .ok (.slice (some ⟨w.heap.size, 0, none⟩) 0 (n + 1)) (w.alloc (.cells cur0 9)) := by
    have h := run_make (P := Tryd.prog) w 26 9 i0 _ Tryd.underlying26 g1 g2 .i64 .i64 0 ((n : Int) + 1) (by omega) (by omega) (by rw [g4]; omega) (by omega)
    rw [h, g3, ← hcur0, show ((n : Int) + 1).toNat = n + 1 by omega]
    rfl
  have hsz0 : cur0.size = n + 1 := by rw [← hcur0]; simp [madeCells, Value.cells]
  obtain ⟨w1, hw1⟩ : ∃ w1, w1 = w.alloc (.cells cur0 9) := ⟨_, rfl⟩
  have hb1 : Below w.heap.size w w1 := by rw [hw1]; exact (Below.refl _ _).alloc (Nat.le_refl _) _
  have hh1 : w1.heap[w.heap.size]? = some (.cells cur0 9 (0, 0)) := by rw [hw1]; exact heap_new _ _
  have hs1 : SliceIs w1 w.heap.size 9 (.slice (some ⟨w.heap.size, 0, none⟩) 0 (n + 1)) 0 [] := ⟨rfl, .inr ⟨w.heap.size, n + 1, cur0, rfl, Nat.le_refl _, RowAt.of hh1, hsz0, by omega, by unfold maxLen; omega, by simp⟩⟩
  have HR := Lib.hid ha
  have hac := ha.1
  have HLn := Lib.hid hlen
  have HS1 := Lib.hid (show ∃ v, v = Value.slice (some ⟨w.heap.size, 0, none⟩) 0 (n + 1) ∧ SliceIs w1 w.heap.size 9 v 0 ((zs.take 0).map strV) ∧ Below w.heap.size w w1 from ⟨_, rfl, hs1, hb1⟩)
  have HW := Lib.hid hw1
  rw [← hw1] at hmk
  have HM := Lib.hid hmk
  have e1 : IntKind.i64.wrap ((n : Int) + 1) = (n : Int) + 1 := IntWalk.i64_in _ (by omega)
  clear ha hlen hmk hw1 hb1 hh1 hs1 hsz0 hcur0 g1 g2 g3 g4
  go_enter Tryd.func27, Tryd.ntmps27
  go_upto_region 1 with (fail)
  go_wp2_with (rw [HM.out])
  go_loopw [3, 4] (fun v i wr => ∃ k : Nat, k ≤ n ∧ i = .int .i64 k ∧ Hid (SliceIs wr w.heap.size 9 v k ((zs.take k).map strV) ∧ Below w.heap.size w wr)) (fun _ i _ => n - (intOf i).toNat)
  case atStart =>
    obtain ⟨v, rfl, hs, hb⟩ := HS1.out
    exact ⟨0, Nat.zero_le _, rfl, Lib.hid ⟨hs, hb⟩⟩
  case round =>
    obtain ⟨k, hk, rfl, hI⟩ := hrel
    obtain ⟨va, vc, rfl, hvr⟩ := hI.out.1.arg
    have hvc := hvr.1
    clear hvr
    by_cases hlt : k < n
    · have hb := hI.out.2
      obtain ⟨b, o, e, hc⟩ := HR.out.2.resolve_left (by omega)
      subst e
      have hkl : k < zs.length := by rw [HLn.out]; exact hlt
      have h0 : w.cell? ⟨b, o + k, none⟩ = some (.string (zs.getD k ByteArray.empty)) := hc k hlt
      have hcell : wr.cell? ⟨b, o + k, none⟩ = some (.string (zs.getD k ByteArray.empty)) := by rw [hb.cell (World.block_lt_of_cell? w _ h0)]; exact h0
      have htk : zs.take (k + 1) = zs.take k ++ [zs.getD k ByteArray.empty] := by rw [List.take_succ_eq_append_getElem hkl]; simp [List.getD, hkl]
      obtain ⟨v', W2, hrn, s2, b2⟩ := append_text1 hI.out.1 hb.size (zs.getD k ByteArray.empty) (by omega)
      rw [← htk] at s2
      have HA := Lib.hid hrn
      have HN := Lib.hid (And.intro s2 (hb.trans b2))
      obtain ⟨va', vc', rfl, _⟩ := s2.arg
      clear hb htk hrn s2 b2 hI hc h0
      generalize zs.getD k ByteArray.empty = y at *
      go_wp2_with (at_builtin; refine wpList_append_run rfl rfl HA.out ?_)
      go_roundw
      case rel => exact ⟨k + 1, by omega, by go_num, HN⟩
      case measure => simp [intOf]; omega
    · obtain rfl : n = k := by omega
      have hb := hI.out.2
      obtain ⟨v', W2, hrn, s2, b2⟩ := append_text1 hI.out.1 hb.size spareT (by omega)
      have HA := Lib.hid hrn
      rw [List.take_of_length_le (by rw [HLn.out]; exact Nat.le_refl _)] at s2
      obtain ⟨g, cap, cur, rfl, q1, q2, q3, q4, q5, q6⟩ := s2.2.resolve_left (by omega)
      have HN := Lib.hid (show TwinT W2 w.heap.size (.slice (some ⟨g, 0, none⟩) n cap) zs ∧ Below w.heap.size w W2 from ⟨⟨g, cap, by rw [HLn.out], by rw [HLn.out]; exact q4, by rw [HLn.out]; exact s2⟩, hb.trans b2⟩)
      have hcap : n ≤ cap := by omega
      clear hb hrn s2 b2 hI q1 q2 q3 q4 q5 q6
      go_wp2_with (at_builtin; refine wpList_append_run rfl rfl HA.out ?_)
      go_ret
      exact ⟨⟨_, rfl, HN.out.1⟩, HN.out.2⟩
set_option maxHeartbeats 3200000 in
set_option maxRecDepth 100000 in
theorem leftTexts_any (w : World) {B : Nat} {v : Value} (a' : Option Addr) (n c' : Nat) (zs : List ByteArray) (h : TwinT w B v zs) (hlen : zs.length = n) (h' : ArgRow w a' n c' fun i => .string (zs.getD i ByteArray.empty)) (hn : n ≤ 4000000) :
    Calls Tryd.prog 35 #[v, .slice a' n c'] w fun e w' => e = .returned (.bool true) ∧ Below w.heap.size w w' := by
  obtain ⟨g, cap, rfl, hc1, hs⟩ := h
  have hc2 : cap ≤ maxLen := by
    rcases hs.2 with ⟨e, _⟩ | ⟨g', cap', cur, e, q1, q2, q3, q4, q5, q6⟩
    · cases e
    · cases e; exact q5
  obtain ⟨av, cv, e0, har⟩ := texts_of_slice hs
  cases e0
  rw [hlen] at hc1 har ⊢
  have hc0 : ∀ i, i < n + 1 → w.cell? ⟨g, i, none⟩ = some (.string ((zs ++ [spareT]).getD i ByteArray.empty)) := fun i hi => by
    obtain ⟨b, o, e, hc⟩ := har.2.resolve_left (by omega)
    cases e
    have := hc i hi
    rwa [Nat.zero_add] at this
  have HC := Lib.hid hc0
  have HA := Lib.hid h'
  have HLn := Lib.hid hlen
  unfold maxLen at hc2
  clear hs har h' hlen hc0
  have e1 : ((n : Int) == (n : Int)) = true := by simp
  have e2 : decide ((cap : Int) ≤ (n : Int)) = false := by simp; omega
  have e2' : decide (cap ≤ n) = false := by simp; omega
  have e3 : IntKind.i64.wrap ((n : Int) + 1) = (n : Int) + 1 := IntWalk.i64_in _ (by omega)
  go_enter Tryd.func35, Tryd.ntmps35
  go_wp2_with fail
  go_loopw [5] (fun i wr => ∃ k : Nat, k ≤ n ∧ i = .int .i64 k ∧ Hid (Below w.heap.size w wr)) (fun i _ => n - (intOf i).toNat)
  case atStart => exact ⟨0, Nat.zero_le _, rfl, Lib.hid (Below.refl _ _)⟩
  case round =>
    obtain ⟨k, hk, rfl, hI⟩ := hrel
    by_cases hlt : k < n
    · obtain ⟨b', o', e', hcl⟩ := HA.out.2.resolve_left (by omega)
      subst e'
      have hkl : k < zs.length := by rw [HLn.out]; exact hlt
      have d0 : w.cell? ⟨g, k, none⟩ = some (.string (zs.getD k ByteArray.empty)) := by
        rw [HC.out k (by omega)]
        simp [List.getD, List.getElem?_append_left hkl]
      have d1 : w.cell? ⟨b', o' + k, none⟩ = some (.string (zs.getD k ByteArray.empty)) := hcl k hlt
      have hbd := belowN hI.out 1
      have d0' : wr.drew.cell? ⟨g, k, none⟩ = some (.string (zs.getD k ByteArray.empty)) := (hbd.cell (World.block_lt_of_cell? w _ d0)).trans d0
      have d1' : wr.drew.cell? ⟨b', o' + k, none⟩ = some (.string (zs.getD k ByteArray.empty)) := (hbd.cell (World.block_lt_of_cell? w _ d1)).trans d1
      clear hcl d0 d1
      generalize zs.getD k ByteArray.empty = y at *
      obtain ⟨X1, fw, hX1, hfw, hF⟩ := classOf (fun w' => w'.cell? ⟨g, k, none⟩ = some (.string y) ∧ w'.cell? ⟨b', o' + k, none⟩ = some (.string y)) (w := wr.drew) ⟨d0', d1'⟩
      have k1 := fun x => (hfw x).1
      have k2 := fun x => (hfw x).2
      have HFa := Lib.hid (hF wr.drew ⟨d0', d1'⟩)
      have HS := Lib.hid hbd
      clear hF hfw d0' d1' hbd hI
      go_upto_region 6 with (fail)
      refine wp_region_text ⟨[], [], 9⟩ (fun w' => ∃ x : X1, w' = fw x) (by kernel_rfl) (by kernel_rfl) HFa.out ?_
      refine wpC_seg false (HFa.out) 9 0 _ _ (by rfl) (by rfl) ?_
      simp only [List.take_succ_cons, List.take_zero, List.drop_succ_cons, List.drop_zero, Bool.false_eq_true, if_false, Nat.zero_add, Nat.reduceAdd]
      repeat (go_big_quiet_step (fail))
      refine wpQuiet_nil ?_
      refine wpC_nil ?_
      go_wp2_with fail
      go_roundw
      case rel => exact ⟨k + 1, by omega, by go_num, HS⟩
      case measure => simp [intOf]; omega
    · obtain rfl : n = k := by omega
      have d0 : wr.cell? ⟨g, n, none⟩ = some (.string spareT) := by
        have h0 := HC.out n (by omega)
        have : (zs ++ [spareT]).getD n ByteArray.empty = spareT := by have := HLn.out; simp [List.getD, ← this]
        rw [this] at h0
        exact (hI.out.cell (World.block_lt_of_cell? w _ h0)).trans h0
      unfold spareT at d0
      have HB := Lib.hid hI.out
      clear hI
      go_wp2_with fail
      go_ret
      exact ⟨rfl, HB.out⟩
end Go.Proofs.YtpldbgdhflmjhaaDoor

/- TwinReply, TwinReplies: a copy of a reply, all lists within it copied, each with a mark behind. -/
namespace Go.Proofs.YtpldbgdhflmjhaaDoor
set_option linter.unusedVariables false
set_option linter.unusedSimpArgs false
open Go.RowKit
theorem info_reply : (Tryd.prog.info? 25).map (fun i => (i.zero, i.size, i.bytes)) = some (some (.agg #[.int .u8 0, .string ⟨#[]⟩, .int .i64 0, .slice none 0 0]), 4, 56) := by kernel_rfl
/-- A row of replies that is being made: copies of these. -/
def MadeR (w : World) (n₀ : Nat) (v : Value) (Vs : List RC) : Prop :=
  SliceN w n₀ 25 4 v Vs.length (Vs.flatMap repC) ∧ ∀ x ∈ Vs, RcOk x.r ∧ TwinL w (fun b => n₀ ≤ b ∧ vblock v ≠ some b) x.r x.a x.c
theorem MadeR.append {W w : World} {n₀ : Nat} {v : Value} {Vs : List RC} (h : MadeR W n₀ v Vs) (hb : Below W.heap.size W w) {x : RC} (hok : RcOk x.r) (hn : n₀ ≤ W.heap.size) (hx : TwinL w (fun b => W.heap.size ≤ b) x.r x.a x.c) (hsz : Vs.length + 1 ≤ 1000000000) :
    ∃ v' w', (Builtin.append_ #[23, 23] 23 #[v, .slice (some ⟨w.heap.size, 0, none⟩) 1 1]).run Tryd.prog (w.alloc (.cells (repC x).toArray 25)) = .ok v' w' ∧ MadeR w' n₀ v' (Vs ++ [x]) ∧ Chg (fun k => vblock v = some k) w w' ∧ (vblock v' = vblock v ∨ ∃ k, vblock v' = some k ∧ w.heap.size ≤ k) := by
  have hB : ∀ k, vblock v = some k → k < W.heap.size := fun k hk => (h.1.block_lt hk).2
  have h1 := h.1.below hb
  have hsW := hb.size
  obtain ⟨i0, g1, g2, g3, g4⟩ := info_parts info_reply
  obtain ⟨v', w', hr, s2, c2, hv2⟩ := run_append_oneN (P := Tryd.prog) (t := 23) (ty := 23) (z := 4) (w := w) Tryd.underlying23 g1 g2 g3 g4 rfl h1 (by omega) (repC x) rfl (by simp [repC, Value.oneCell']) (by unfold maxLen; omega) (by omega)
  have hne : ∀ b, b < w.heap.size → vblock v ≠ some b → vblock v' ≠ some b := fun b hb hv e => by
    rcases hv2 with h | ⟨k, h, hk⟩
    · exact hv (h ▸ e)
    · rw [h] at e; cases e; omega
  refine ⟨v', w', hr, ⟨?_, fun y hy => ?_⟩, c2, hv2⟩
  · rw [List.length_append, List.flatMap_append]
    simpa using s2
  · rcases List.mem_append.1 hy with hy | hy
    · obtain ⟨o, ht⟩ := h.2 y hy
      refine ⟨o, ht.chg ((Chg.of_below (fun k => vblock v = some k) hb).trans c2 fun k hk _ => hk) fun b hlt hb' => ⟨⟨hb'.1, hne b (by omega) hb'.2⟩, hb'.2⟩⟩
    · have : y = x := by simpa using hy
      subst this
      refine ⟨hok, hx.chg c2 fun b hlt hb' => ?_⟩
      have hvb : vblock v ≠ some b := fun e => by have := hB b e; omega
      exact ⟨⟨by omega, hne b hlt hvb⟩, hvb⟩
abbrev TwinOk (r : Rep) : Prop := ∀ (w : World) (v : Value), RepV w r v → sizeR r ≤ 1048576 → Calls Tryd.prog 11 #[v] w fun e w' => (∃ a c, e = .returned (.agg (repC ⟨r, a, c⟩).toArray) ∧ TwinL w' (fun b => w.heap.size ≤ b) r a c) ∧ Below w.heap.size w w'
set_option maxHeartbeats 3200000 in
set_option maxRecDepth 100000 in
theorem twinReplies_of {l : List Rep} (ih : ∀ r ∈ l, TwinOk r) {w : World} {a : Option Addr} {n c : Nat} (h : RepRow w a n c l) (hs : n + sizeL l ≤ 1048576) :
    Calls Tryd.prog 26 #[.slice a n c] w fun e w' => (∃ g c', e = .returned (.slice (some ⟨g, 0, none⟩) n c') ∧ TwinL w' (fun b => w.heap.size ≤ b) (.mk 0 ⟨#[]⟩ 0 l) (some ⟨g, 0, none⟩) c') ∧ Below w.heap.size w w' := by
  obtain ⟨i0, g1, g2, g3, g4⟩ := info_parts info_reply
  have hn6 : n ≤ 1048576 := by omega
  obtain ⟨cur0, hcur0⟩ : ∃ cur0, madeCells (Value.agg #[.int .u8 0, .string ⟨#[]⟩, .int .i64 0, .slice none 0 0]).cells ((n + 1) * 4) = cur0 := ⟨_, rfl⟩
  have hmk : (Instr.makeSlice 23 (.int .i64 0) (.int .i64 ((n : Int) + 1))).run Tryd.prog w = .ok (.slice (some ⟨w.heap.size, 0, none⟩) 0 (n + 1)) (w.alloc (.cells cur0 25)) := by
    have h := run_make (P := Tryd.prog) w 23 25 i0 _ Tryd.underlying23 g1 g2 .i64 .i64 0 ((n : Int) + 1) (by omega) (by omega) (by rw [g4]; omega) (by omega)
    rw [h, g3, ← hcur0, show ((n : Int) + 1).toNat = n + 1 by omega]
    rfl
  have hsz0 : cur0.size = (n + 1) * 4 := by rw [← hcur0]; simp [madeCells, Value.cells]
  obtain ⟨w1, hw1⟩ : ∃ w1, w1 = w.alloc (.cells cur0 25) := ⟨_, rfl⟩
  have hb1 : Below w.heap.size w w1 := by rw [hw1]; exact (Below.refl _ _).alloc (Nat.le_refl _) _
  have hh1 : w1.heap[w.heap.size]? = some (.cells cur0 25 (0, 0)) := by rw [hw1]; exact heap_new _ _
  have hs1 : SliceN w1 w.heap.size 25 4 (.slice (some ⟨w.heap.size, 0, none⟩) 0 (n + 1)) 0 [] := ⟨rfl, .inr ⟨w.heap.size, n + 1, cur0, rfl, Nat.le_refl _, RowAt.of hh1, hsz0, by omega, by unfold maxLen; omega, by simp⟩⟩
  have hall : ∀ r ∈ l, sizeR r ≤ 1048576 := fun r hr => by have := sizeL_mem hr; omega
  have HR := Lib.hid h
  have HI := Lib.hid (And.intro ih hall)
  have HS1 := Lib.hid (show ∃ v Vs, v = Value.slice (some ⟨w.heap.size, 0, none⟩) 0 (n + 1) ∧ MadeR w1 w.heap.size v Vs ∧ Vs.map RC.r = l.take 0 ∧ Below w.heap.size w w1 from ⟨_, [], rfl, ⟨hs1, by simp⟩, rfl, hb1⟩)
  have HW := Lib.hid hw1
  rw [← hw1] at hmk
  have HM := Lib.hid hmk
  have e1 : IntKind.i64.wrap ((n : Int) + 1) = (n : Int) + 1 := IntWalk.i64_in _ (by omega)
  clear h hmk hw1 hb1 hh1 hs1 hsz0 hcur0 g1 g2 g3 g4 ih hs hall
  go_enter Tryd.func26, Tryd.ntmps26
  go_upto_region 1 with (fail)
  go_wp2_with (rw [HM.out])
  go_loopw [3, 4] (fun v i wr => ∃ k : Nat, k ≤ n ∧ i = .int .i64 k ∧ Hid (∃ Vs, MadeR wr w.heap.size v Vs ∧ Vs.map RC.r = l.take k ∧ Below w.heap.size w wr)) (fun _ i _ => n - (intOf i).toNat)
  case atStart =>
    obtain ⟨v, Vs, rfl, hs, hl, hb⟩ := HS1.out
    exact ⟨0, Nat.zero_le _, rfl, Lib.hid ⟨Vs, hs, hl, hb⟩⟩
  case round =>
    obtain ⟨k, hk, rfl, hI⟩ := hrel
    obtain ⟨Vs, hM, hl, hb⟩ := hI.out
    obtain ⟨va, vc, rfl, hvc, hvm⟩ := hM.1.form
    have hll := HR.out.1
    have hlen : Vs.length = k := by
      have := congrArg List.length hl
      rw [List.length_map, List.length_take] at this
      omega
    rw [hlen] at hvc
    by_cases hlt : k < n
    · obtain ⟨b, o, r, a', c', rfl, hr, ⟨d0, d1, d2, d3⟩, hv⟩ := (HR.out.below hb).cells hlt
      obtain ⟨hkl, hr'⟩ := List.getElem?_eq_some_iff.1 hr
      have hmem := List.mem_of_getElem? hr
      have HC := Lib.hid (HI.out.1 r hmem wr _ hv (HI.out.2 r hmem))
      have htk : l.take (k + 1) = l.take k ++ [r] := by rw [List.take_succ_eq_append_getElem hkl, hr']
      have hok : RcOk r := by obtain ⟨_, _, _, h2, _⟩ := hv; exact h2
      have HMd := Lib.hid (And.intro hM (And.intro hl (And.intro hb (And.intro htk (And.intro hok hlen)))))
      rw [hlen] at hM ⊢
      clear hv hr hkl hr' htk hM hl hb hmem hll hok hI hlen
      go_wp2_with fail
      refine HC.out.mono ?_
      rintro e w2 ⟨⟨a2, c2, rfl, ht⟩, b2⟩
      obtain ⟨hM, hl, hb, htk, hok, hlen⟩ := HMd.out
      obtain ⟨v', W2, hrn, m2, ch2, hv2⟩ := hM.append b2 (x := ⟨r, a2, c2⟩) hok hb.size ht (by omega)
      rw [hlen] at hrn
      have HA := Lib.hid hrn
      have HN := Lib.hid (show ∃ Vs, MadeR W2 w.heap.size v' Vs ∧ Vs.map RC.r = l.take (k + 1) ∧ Below w.heap.size w W2 from ⟨_, m2, by rw [List.map_append, hl, htk]; rfl, belowChg (hb.trans (b2.mono hb.size)) ch2 (Nat.le_trans hb.size b2.size) fun j hj _ => (hM.1.block_lt hj).1⟩)
      obtain ⟨va', vc', rfl, _, _⟩ := m2.1.form
      have hlen := hlen
      clear hM hl hb htk hok hrn m2 ch2 hv2 b2 ht HMd d0 d1 d2 d3
      unfold repC
      go_wp2_with (at_builtin; refine wpList_append_run rfl rfl HA.out ?_)
      go_roundw
      case rel => exact ⟨k + 1, by omega, by go_num, by have h := HN.out; simp only [List.length_append, List.length_singleton] at h; rw [hlen] at h; exact Lib.hid h⟩
      case measure => simp [intOf]; omega
    · obtain rfl : n = k := by omega
      have hlt' : l.take n = l := List.take_of_length_le (by omega)
      have hmk0 : MadeR wr w.heap.size (.slice va Vs.length vc) Vs := hM
      obtain ⟨i0, g1, g2, g3, g4⟩ := info_parts info_reply
      obtain ⟨v', W2, hrn, s2, c2, hv2⟩ := run_append_oneN (P := Tryd.prog) (t := 23) (ty := 23) (z := 4) (w := wr) Tryd.underlying23 g1 g2 g3 g4 rfl hM.1 hb.size (repC ⟨spareR, none, 0⟩) rfl (by simp [repC, Value.oneCell']) (by unfold maxLen; omega) (by omega)
      have hbl := belowChg hb c2 hb.size fun j hj _ => (hM.1.block_lt hj).1
      rw [hlen] at hrn s2
      have HA := Lib.hid hrn
      obtain ⟨g, cap, cur, rfl, q1, q2, q3, q4, q5, q6⟩ := s2.2.resolve_left (by omega)
      have HN := Lib.hid (show TwinL W2 (fun b => w.heap.size ≤ b) (.mk 0 ⟨#[]⟩ 0 l) (some ⟨g, 0, none⟩) cap ∧ Below w.heap.size w W2 from by
        have hml : ∀ i (hi : i < l.length) (hi' : i < Vs.length), l[i] = Vs[i].r := fun i hi hi' => by
          have := congrArg (fun L => L[i]?) (hl.trans hlt')
          simp only [List.getElem?_map, List.getElem?_eq_getElem hi, List.getElem?_eq_getElem hi', Option.map_some, Option.some.injEq] at this
          exact this.symm
        have hnb : ∀ b, b < wr.heap.size → vblock (.slice va Vs.length vc) ≠ some b → w.heap.size ≤ b → w.heap.size ≤ b ∧ ¬ vblock (.slice va Vs.length vc) = some b := fun b _ h1 h2 => ⟨h2, h1⟩
        refine ⟨TwinL.mk (r := .mk 0 ⟨#[]⟩ 0 l) q1 ⟨by show l.length + 1 ≤ _; omega, q5⟩ (fun i hi => ?_) fun j hj => ?_, hbl⟩
        · have hi : i < l.length := hi
          have hi' : i < Vs.length := by omega
          obtain ⟨ho, ht⟩ := hM.2 Vs[i] (List.getElem_mem _)
          show RcOk l[i] ∧ ∃ a c, (∀ j, j < 4 → W2.cell? ⟨g, i * 4 + j, none⟩ = some ((repC ⟨l[i], a, c⟩).getD j undef)) ∧ TwinL W2 _ l[i] a c
          rw [hml i hi hi']
          refine ⟨ho, Vs[i].a, Vs[i].c, fun j hj => ?_, ht.chg c2 fun b hlt hb' => ⟨hb'.1, hb'.2⟩⟩
          have h1 := s2.cell (g := g) (i := i * 4 + j) rfl (by omega)
          rw [h1]
          have h2 := flatR Vs i hi' j hj
          have h3 : i * 4 + j < (Vs.flatMap repC).length := by rw [flatR_len]; omega
          rw [← h2]
          simp only [List.getD]
          rw [List.getElem?_append_left h3]
        · show W2.cell? ⟨g, l.length * 4 + j, none⟩ = _
          have h1 := s2.cell (g := g) (i := l.length * 4 + j) rfl (by omega)
          rw [h1]
          have h3 : (Vs.flatMap repC).length = l.length * 4 := by rw [flatR_len]; omega
          simp only [List.getD]
          rw [List.getElem?_append_right (by omega), h3, Nat.add_sub_cancel_left])
      have hcap : n ≤ cap := by omega
      rw [hlen]
      clear hlt' hmk0 hrn s2 c2 hv2 hbl q1 q2 q3 q4 q5 q6 hI hM hl hb hll hlen g1 g2 g3 g4
      unfold repC spareR spareB at HA
      dsimp only [Rep.k, Rep.t, Rep.n, Rep.l, List.length_nil] at HA
      go_wp2_with (at_builtin; refine wpList_append_run rfl rfl HA.out ?_)
      go_ret
      exact ⟨⟨_, _, rfl, HN.out.1⟩, HN.out.2⟩
end Go.Proofs.YtpldbgdhflmjhaaDoor

/- TwinReply: behind TwinReplies. -/
namespace Go.Proofs.YtpldbgdhflmjhaaDoor
set_option linter.unusedVariables false
set_option linter.unusedSimpArgs false
open Go.RowKit
/-- Four cells stored, one behind the other. -/
theorem store4 {w : World} {p : Nat} {c0 c1 c2 c3 : Value} {E : TypeId} (h : w.heap[p]? = some (.cells #[c0, c1, c2, c3] E (0, 0))) (x0 x1 x2 x3 : Value) {w' : World} (hw : w' = (((w.setCell ⟨p, 0, none⟩ x0).setCell ⟨p, 1, none⟩ x1).setCell ⟨p, 2, none⟩ x2).setCell ⟨p, 3, none⟩ x3) :
    w'.heap[p]? = some (.cells #[x0, x1, x2, x3] E (0, 0)) ∧ Chg (fun k => k = p) w w' ∧
    (w.cell? ⟨p, 0, none⟩ = some c0 ∧ w.frozen? ⟨p, 0, none⟩ = false) ∧ ((w.setCell ⟨p, 0, none⟩ x0).cell? ⟨p, 1, none⟩ = some c1 ∧ (w.setCell ⟨p, 0, none⟩ x0).frozen? ⟨p, 1, none⟩ = false) ∧
    (((w.setCell ⟨p, 0, none⟩ x0).setCell ⟨p, 1, none⟩ x1).cell? ⟨p, 2, none⟩ = some c2 ∧ ((w.setCell ⟨p, 0, none⟩ x0).setCell ⟨p, 1, none⟩ x1).frozen? ⟨p, 2, none⟩ = false) ∧
    ((((w.setCell ⟨p, 0, none⟩ x0).setCell ⟨p, 1, none⟩ x1).setCell ⟨p, 2, none⟩ x2).cell? ⟨p, 3, none⟩ = some c3 ∧ (((w.setCell ⟨p, 0, none⟩ x0).setCell ⟨p, 1, none⟩ x1).setCell ⟨p, 2, none⟩ x2).frozen? ⟨p, 3, none⟩ = false) := by
  have h0 := setCell_head h 0 x0
  have h1 := setCell_head h0 1 x1
  have h2 := setCell_head h1 2 x2
  refine ⟨by rw [hw]; exact setCell_head h2 3 x3, ?_, ⟨cell_in h rfl, frozen_in h 0⟩, ⟨cell_in h0 rfl, frozen_in h0 1⟩, ⟨cell_in h1 rfl, frozen_in h1 2⟩, cell_in h2 rfl, frozen_in h2 3⟩
  rw [hw]
  exact (((Chg.setCell (fun k => k = p) _ _ _ rfl).trans (Chg.setCell (fun k => k = p) _ _ _ rfl) fun _ h _ => h).trans (Chg.setCell (fun k => k = p) _ _ _ rfl) fun _ h _ => h).trans (Chg.setCell (fun k => k = p) _ _ _ rfl) fun _ h _ => h
set_option maxHeartbeats 3200000 in
set_option maxRecDepth 100000 in
theorem twinReply_any (r : Rep) : TwinOk r := by
  induction r using Rep.ind with
  | h k t n l ih =>
    rintro w v ⟨a, c, rfl, hok, hrow⟩ hs
    dsimp only [Rep.k, Rep.t, Rep.n, Rep.l] at *
    simp only [sizeR] at hs
    obtain ⟨m, hm⟩ : ∃ m, l.length = m := ⟨_, rfl⟩
    obtain ⟨w1, hw1⟩ : ∃ w1, w1 = (w.alloc (.cells #[.int .u8 k, .string t, .int .i64 n, .slice a m c] 25)).alloc (.cells #[.int .u8 0, .string ⟨#[]⟩, .int .i64 0, .slice none 0 0] 25) := ⟨_, rfl⟩
    have hb1 : Below w.heap.size w w1 := by rw [hw1]; exact ((Below.refl _ _).alloc (Nat.le_refl _) _).alloc (by simp) _
    have k1 : w1.heap[w.heap.size]? = some (.cells #[.int .u8 k, .string t, .int .i64 n, .slice a m c] 25 (0, 0)) := by rw [hw1]; exact heap_old (heap_new _ _) _
    have k2 : w1.heap[w.heap.size + 1]? = some (.cells #[.int .u8 0, .string ⟨#[]⟩, .int .i64 0, .slice none 0 0] 25 (0, 0)) := by
      rw [hw1]
      have := heap_new (w.alloc (.cells #[.int .u8 k, .string t, .int .i64 n, .slice a m c] 25)) (.cells #[.int .u8 0, .string ⟨#[]⟩, .int .i64 0, .slice none 0 0] 25)
      rw [World.size_alloc] at this
      exact this
    have hsz : w1.heap.size = w.heap.size + 2 := by rw [hw1]; simp
    have hb2 := belowN (Below.refl w1.heap.size w1) 1
    rw [hm] at hs
    have hC := twinReplies_of ih ((hrow.below hb1).below hb2) (by rw [hm]; omega)
    rw [hm] at hC
    have HS := Lib.hid hC
    have HM := Lib.hid (And.intro hm hok)
    have HK := Lib.hid (show ∀ w', Below w1.heap.size w1 w' → w'.heap[w.heap.size]? = some (.cells #[.int .u8 k, .string t, .int .i64 n, .slice a m c] 25 (0, 0)) ∧ w'.heap[w.heap.size + 1]? = some (.cells #[.int .u8 0, .string ⟨#[]⟩, .int .i64 0, .slice none 0 0] 25 (0, 0)) from fun w' hb => ⟨(hb.block _ (heap_lt k1)).trans k1, (hb.block _ (heap_lt k2)).trans k2⟩)
    obtain ⟨X1, fw, hX1, hfw, hF⟩ := classOf (fun w' => w'.cell? ⟨w.heap.size, 0, none⟩ = some (.int .u8 k) ∧ w'.cell? ⟨w.heap.size, 1, none⟩ = some (.string t) ∧ w'.cell? ⟨w.heap.size, 2, none⟩ = some (.int .i64 n) ∧ w'.cell? ⟨w.heap.size, 3, none⟩ = some (.slice a m c)) (w := w1.drew) (by
      have := (HK.out _ hb2).1
      exact ⟨cell_in this rfl, cell_in this rfl, cell_in this rfl, cell_in this rfl⟩)
    have f1 := fun x => (hfw x).1
    have f2 := fun x => (hfw x).2.1
    have f3 := fun x => (hfw x).2.2.1
    have f4 := fun x => (hfw x).2.2.2
    have HFa := Lib.hid (show ∀ w', Below w1.heap.size w1 w' → ∃ x : X1, w' = fw x from fun w' hb => by
      have := (HK.out _ hb).1
      exact hF w' ⟨cell_in this rfl, cell_in this rfl, cell_in this rfl, cell_in this rfl⟩)
    have HW := Lib.hid hw1
    have HB := Lib.hid (And.intro hb1 (And.intro hsz hb2))
    rw [show (Value.agg #[.int .u8 k, .string t, .int .i64 n, .slice a l.length c]) = .agg #[.int .u8 k, .string t, .int .i64 n, .slice a m c] by rw [hm]]
    clear hrow ih hs hok hw1 hb1 hb2 k1 k2 hF hfw hsz hC hm
    go_enter Tryd.func11, Tryd.ntmps11
    go_upto_region 1 with (fail)
    rw [← HW.out]
    refine wp_region_text ⟨[8, 10], [], 10⟩ (fun w' => ∃ x : X1, w' = fw x) (by kernel_rfl) (by kernel_rfl) (HFa.out _ HB.out.2.2) ?_
    refine wpC_seg false (HFa.out _ HB.out.2.2) 8 0 _ _ (by rfl) (by rfl) ?_
    simp only [List.take_succ_cons, List.take_zero, List.drop_succ_cons, List.drop_zero, Bool.false_eq_true, if_false, Nat.zero_add, Nat.reduceAdd]
    repeat (go_big_quiet_step (fail))
    refine wpQuiet_nil ?_
    refine wpC_loud (by rfl) (by rfl) fun K hK => ?_
    go_wp2_with fail
    refine HS.out.mono ?_
    rintro e w2 ⟨⟨g, cp, rfl, o2⟩, b2⟩
    have hbb := HB.out.2.2.trans (b2.mono HB.out.2.2.size)
    refine hK _ _ (fun _ => HFa.out _ hbb) ?_
    have HO := Lib.hid (And.intro o2 hbb)
    clear hK o2 b2 hbb
    refine wpC_seg false (HFa.out _ HO.out.2) 1 9 _ _ (by rfl) (by rfl) ?_
    simp only [List.take_succ_cons, List.take_zero, List.drop_succ_cons, List.drop_zero, Bool.false_eq_true, if_false, Nat.zero_add, Nat.reduceAdd]
    repeat (go_big_quiet_step (fail))
    refine wpQuiet_nil ?_
    refine wpC_loud (by rfl) (by rfl) fun K hK => ?_
    have hr2 := (HK.out w2 HO.out.2).2
    obtain ⟨w3, hw3⟩ : ∃ w3, w3 = (((w2.setCell ⟨w.heap.size + 1, 0, none⟩ (.int .u8 k)).setCell ⟨w.heap.size + 1, 1, none⟩ (.string t)).setCell ⟨w.heap.size + 1, 2, none⟩ (.int .i64 n)).setCell ⟨w.heap.size + 1, 3, none⟩ (.slice (some ⟨g, 0, none⟩) m cp) := ⟨_, rfl⟩
    obtain ⟨hh3, hc3, ⟨q0, r0⟩, ⟨q1, r1⟩, ⟨q2, r2⟩, ⟨q3, r3⟩⟩ := store4 hr2 (.int .u8 k) (.string t) (.int .i64 n) (.slice (some ⟨g, 0, none⟩) m cp) hw3
    have HEnd := Lib.hid (show (w3.cell? ⟨w.heap.size + 1, 0, none⟩ = some (.int .u8 k) ∧ w3.cell? ⟨w.heap.size + 1, 1, none⟩ = some (.string t) ∧ w3.cell? ⟨w.heap.size + 1, 2, none⟩ = some (.int .i64 n) ∧ w3.cell? ⟨w.heap.size + 1, 3, none⟩ = some (.slice (some ⟨g, 0, none⟩) m cp)) ∧ TwinL w3 (fun b => w.heap.size ≤ b) (.mk k t n l) (some ⟨g, 0, none⟩) cp ∧ Below w.heap.size w w3 from by
      have hsz := HB.out.2.1
      have ho := HO.out.1
      refine ⟨⟨cell_in hh3 rfl, cell_in hh3 rfl, cell_in hh3 rfl, cell_in hh3 rfl⟩, ?_, ?_⟩
      · have h1 : TwinL w2 (fun b => w1.drew.heap.size ≤ b) (.mk k t n l) (some ⟨g, 0, none⟩) cp := by simp only [TwinL] at ho ⊢; exact ho
        have hd : w1.drew.heap.size = w1.heap.size := rfl
        exact h1.chg hc3 fun b _ hb => ⟨by rw [hd] at hb; omega, fun e => by rw [hd] at hb; omega⟩
      · refine belowChg (HB.out.1.trans (HO.out.2.mono HB.out.1.size)) hc3 ?_ fun k hk _ => by omega
        exact (HB.out.1.trans (HO.out.2.mono HB.out.1.size)).size)
    have HW3 := Lib.hid hw3
    clear hw3 hh3 hc3 hr2
    go_wp2_with fail
    rw [← HW3.out]
    refine hK _ _ (fun h => absurd h (by decide)) ?_
    clear hK q0 r0 q1 r1 q2 r2 q3 r3 f1 f2 f3 f4
    refine wpC_nil ?_
    go_wp2_with fail
    exact bodyPost_ret (v := .agg #[.int .u8 k, .string t, .int .i64 n, .slice (some ⟨g, 0, none⟩) m cp]) (by have h := HEnd.out.1; simp [results, Tryd.results11, go_sem, h.1, h.2.1, h.2.2.1, h.2.2.2]) rfl ⟨⟨_, _, by simp only [repC, Rep.k, Rep.t, Rep.n, Rep.l]; rw [HM.out.1], HEnd.out.2.1⟩, HEnd.out.2.2⟩
end Go.Proofs.YtpldbgdhflmjhaaDoor

/- resp.Request: a command as a reply. -/
namespace Go.Proofs.YtpldbgdhflmjhaaDoor
set_option linter.unusedVariables false
set_option linter.unusedSimpArgs false
open Go.RowKit
def bulkR (s : ByteArray) : Rep := .mk 4 s 0 []
def bulkRC (s : ByteArray) : RC := ⟨bulkR s, none, 0⟩
theorem cmdR_l (L : List ByteArray) : (cmdR L).l = L.map bulkR := rfl
theorem may_cmd (L : List ByteArray) : mayR 0 (cmdR L) = true := by
  unfold cmdR
  simp only [mayR]
  have h : mayL 1 (L.map fun s => Rep.mk 4 s 0 []) = true := by
    rw [mayL_all, List.all_eq_true]
    intro r hr
    obtain ⟨s, _, rfl⟩ := List.mem_map.1 hr
    simp [mayR]
  simp [h]
  rfl
theorem size_cmd (L : List ByteArray) : sizeR (cmdR L) = 1 + (2 * L.length + (L.map ByteArray.size).sum) := by
  have h : ∀ (L : List ByteArray), sizeL (L.map fun s => Rep.mk 4 s 0 []) = L.length + (L.map ByteArray.size).sum := by
    intro L
    induction L with
    | nil => simp [sizeL]
    | cons s L ih => simp only [List.map_cons, sizeL, sizeR, ih, List.length_cons, List.length_nil, List.sum_cons]; omega
  unfold cmdR
  simp only [sizeR, h, List.length_map]
  show 1 + 0 + _ = _
  omega
theorem enc_cmd (L : List ByteArray) : encS (cmdR L) = (strOf (encR (cmdR L)), 0) := by unfold encS; rw [may_cmd]; rfl
/-- A row of bulk replies as a reply's list. -/
theorem bulk_row {w : World} {B : Nat} {v : Value} {L : List ByteArray} (h : SliceN w B 25 4 v L.length ((L.map bulkRC).flatMap repC)) : ∃ a c, v = .slice a L.length c ∧ RepRow w a L.length c (L.map bulkR) := by
  obtain ⟨a, c, rfl, hc, _⟩ := h.form
  refine ⟨a, c, rfl, by simp, hc, ?_⟩
  rcases Nat.eq_zero_or_pos L.length with h0 | h0
  · exact .inl h0
  · obtain ⟨g, cap, cur, he, _⟩ := h.2.resolve_left (by omega)
    simp only [Value.slice.injEq] at he
    obtain ⟨rfl, _, rfl⟩ := he
    refine .inr ⟨g, 0, rfl, RepsAt.of fun i hi => ?_⟩
    have hi' : i < L.length := by simpa using hi
    have hf := fun j hj => flatR (L.map bulkRC) i (by simpa using hi') j hj
    have hcell := fun j (hj : j < 4) => h.cell (g := g) (i := i * 4 + j) rfl (by omega)
    have e : ∀ j, j < 4 → w.cell? ⟨g, 0 + i * 4 + j, none⟩ = some ((repC (bulkRC L[i])).getD j undef) := fun j hj => by
      rw [Nat.zero_add, hcell j hj, hf j hj]; simp
    simp only [List.getElem_map]
    exact RepAt.of (a := none) (c := 0) ⟨e 0 (by omega), e 1 (by omega), e 2 (by omega)⟩ (by simp [bulkR, Rep.k, Rep.n]) (e 3 (by omega)) ⟨rfl, Nat.le_refl _, .inl rfl⟩
end Go.Proofs.YtpldbgdhflmjhaaDoor

/- The document's Request. -/
namespace Go.Proofs.YtpldbgdhflmjhaaDoor
set_option linter.unusedVariables false
set_option linter.unusedSimpArgs false
open Go.RowKit
abbrev reqL (n : Nat) (L : List ByteArray) : List UInt8 := 42 :: (Lib.itoa n ++ (crlfB ++ encL (L.map bulkR)))
theorem bulk_len (s : ByteArray) (h : s.size ≤ 65536) : (encR (bulkR s)).length ≤ 65600 := by
  have h1 := Lib.itoa_length_le (s.size : Int) (by omega) (by omega)
  have h2 : s.data.toList.length = s.size := by rw [Array.length_toList]; rfl
  have e : encR (bulkR s) = 36 :: (Lib.itoa s.size ++ (crlfB ++ (s.data.toList ++ crlfB))) := by
    unfold bulkR
    simp [encR]
  rw [e]
  simp only [List.length_cons, List.length_append, List.length_nil]
  omega
/-- The bytes behind so many texts. -/
def RReqI (w : World) (n : Nat) (zs : List ByteArray) (k : Nat) (v : Value) (wr : World) : Prop :=
  SliceIs wr 0 5 v (reqL n (zs.take k)).length ((reqL n (zs.take k)).map u8v) ∧ (∀ j, vblock v = some j → w.heap.size ≤ j) ∧ Below w.heap.size w wr ∧ (reqL n (zs.take k)).length ≤ 30 + k * 65600 ∧ ∀ s ∈ zs.take k, s.size ≤ 65536
theorem RReqI.next {w wr : World} {n : Nat} {zs : List ByteArray} {k : Nat} {v : Value} (h : RReqI w n zs k v wr) {s : ByteArray} (hs : zs[k]? = some s) (hk : k < 2000) (hsz : s.size ≤ 65536) :
    Calls Tryd.prog 32 #[v, .agg #[.int .u8 4, .string s, .int .i64 0, .slice none 0 0]] wr fun e w' => ∃ v', e = .returned v' ∧ RReqI w n zs (k + 1) v' w' := by
  obtain ⟨h1, h2, h3, h4, h5⟩ := h
  have htk : zs.take (k + 1) = zs.take k ++ [s] := by
    obtain ⟨hkl, hr'⟩ := List.getElem?_eq_some_iff.1 hs
    rw [List.take_succ_eq_append_getElem hkl, hr']
  have hv : RepV w (bulkR s) (.agg #[.int .u8 4, .string s, .int .i64 0, .slice none 0 0]) := ⟨none, 0, rfl, by simp [bulkR, Rep.k, Rep.n], rfl, Nat.le_refl _, .inl rfl⟩
  have hss : sizeR (bulkR s) = 1 + s.size := by simp [bulkR, sizeR, sizeL]
  refine (rput_any (bulkR s) w wr v _ _ 0 (by simp [bulkR, mayR]) h3 hv h1 h2 (by rw [hss]; omega) (by rw [hss]; omega)).mono ?_
  rintro e w' ⟨v', he, hb⟩
  have hcat : reqL n (zs.take k) ++ encR (bulkR s) = reqL n (zs.take (k + 1)) := by
    unfold reqL
    rw [htk, List.map_append, encL_append]
    simp [encL]
  rw [hcat] at hb
  refine ⟨v', he, hb.1, fun j hj => ?_, belowChg h3 hb.2.1 h3.size fun x hx _ => h2 x hx, ?_, fun y hy => ?_⟩
  · rcases hb.2.2 with e | ⟨y, e, hy⟩
    · rw [e] at hj; exact h2 j hj
    · rw [e] at hj; cases hj; exact Nat.le_trans h3.size hy
  · rw [← hcat, List.length_append]
    have := bulk_len s hsz
    omega
  · rw [htk] at hy
    rcases List.mem_append.1 hy with hy | hy
    · exact h5 y hy
    · have : y = s := by simpa using hy
      rw [this]; exact hsz
set_option maxHeartbeats 1600000 in
set_option maxRecDepth 100000 in
theorem refRequest {w : World} {a : Option Addr} {n c : Nat} {zs : List ByteArray} (hlen : zs.length = n) (ha : ArgRow w a n c fun i => .string (zs.getD i ByteArray.empty)) (hn6 : n ≤ 1048576) :
    Calls Tryd.prog 16 #[.slice a n c] w fun e w' => e = .returned (.tuple #[.string (reqS zs).1, .int .i64 (reqS zs).2]) ∧ Below w.heap.size w w' := by
  have hnc := ha.1
  have HA := Lib.hid ha
  have HL := Lib.hid hlen
  by_cases h0 : n = 0
  · have hr : reqS zs = (⟨#[]⟩, 1) := by unfold reqS; rw [if_pos (.inl (by omega))]
    rw [hr]
    subst h0
    clear ha hlen
    go_enter Tryd.func16, Tryd.ntmps16
    go_wp2_with fail
    go_ret2
    exact ⟨rfl, Below.refl _ _⟩
  · have e0 : ((n : Int) == 0) = false := by rw [beq_eq_false_iff_ne]; omega
    by_cases h1 : 1024 < n
    · have hr : reqS zs = (⟨#[]⟩, 1) := by unfold reqS; rw [if_pos (.inr (.inl (by omega)))]
      rw [hr]
      have e1 : decide ((1024 : Int) < (n : Int)) = true := decide_eq_true (by omega)
      have e1' : decide (1024 < n) = true := decide_eq_true h1
      clear ha hlen h0 h1
      go_enter Tryd.func16, Tryd.ntmps16
      go_wp2_with fail
      go_ret2
      exact ⟨rfl, Below.refl _ _⟩
    · have e1 : decide ((1024 : Int) < (n : Int)) = false := decide_eq_false (by omega)
      have e1' : decide (1024 < n) = false := decide_eq_false h1
      have HN := Lib.hid (And.intro h0 h1)
      have HI := Lib.hid (refNum n (by omega) w)
      have hn21 := intT_len (n := (n : Int)) (by omega)
      obtain ⟨s, hs⟩ : ∃ s, intT (n : Int) = s := ⟨_, rfl⟩
      rw [hs] at HI hn21
      have HS := Lib.hid (show s.data.toList = Lib.itoa n by rw [← hs]; rfl)
      clear ha hlen h0 h1 hs
      go_enter Tryd.func16, Tryd.ntmps16
      go_wp2_with fail
      refine HI.out.mono ?_
      rintro e w2 ⟨rfl, b2⟩
      obtain ⟨cap, cur, w3, hcv, q2, q3, q4, q5, q6, q7⟩ := run_bytes_string (P := Tryd.prog) w2 9 40 5 Tryd.underlying9 Tryd.underlying40 Tryd.underlying5 (⟨#[42]⟩ ++ s ++ ⟨#[13, 10]⟩) (by rw [three_size]; omega)
      have H0 := Lib.hid (show RReqI w n zs 0 (.slice (some ⟨w2.heap.size, 0, none⟩) (⟨#[42]⟩ ++ s ++ ⟨#[13, 10]⟩ : ByteArray).size cap) w3 from by
        have hcat : (⟨#[42]⟩ ++ s ++ ⟨#[13, 10]⟩ : ByteArray).data.toList = reqL n (zs.take 0) := by
          rw [three_list, HS.out]; simp [encL]
        have hl : (reqL n (zs.take 0)).length = (⟨#[42]⟩ ++ s ++ ⟨#[13, 10]⟩ : ByteArray).size := by rw [← hcat, Array.length_toList]; rfl
        refine ⟨?_, fun j hj => by cases hj; exact b2.size, belowChg b2 q7 b2.size fun _ h _ => h.elim, ?_, by simp⟩
        · rw [hl, ← hcat]
          refine ⟨by rw [List.length_map, hcat, hl], .inr ⟨_, cap, cur, rfl, Nat.zero_le _, q2, q3, q4, q5, q6⟩⟩
        · rw [hl, three_size]; omega)
      obtain ⟨N, hN⟩ : ∃ N, (⟨#[42]⟩ ++ s ++ ⟨#[13, 10]⟩ : ByteArray).size = N := ⟨_, rfl⟩
      rw [hN] at hcv H0
      clear q2 q3 q4 q5 q6 q7 hN b2
      go_wp2_with fail
      clear hcv
      go_loopw [4, 5] (fun v i wr => ∃ k : Nat, k ≤ n ∧ i = .int .i64 k ∧ Hid (RReqI w n zs k v wr)) (fun _ i _ => n - (intOf i).toNat)
      case atStart => exact ⟨0, Nat.zero_le _, rfl, H0⟩
      case round =>
        obtain ⟨k, hk, rfl, hI⟩ := hrel
        obtain ⟨ka, kc, rfl, _⟩ := hI.out.1.arg
        obtain ⟨K, hK⟩ : ∃ K, (reqL n (zs.take k)).length = K := ⟨_, rfl⟩
        rw [hK] at hI ⊢
        by_cases hlt : k < n
        · obtain ⟨b, o, e, hc⟩ := HA.out.2.resolve_left (by omega)
          subst e
          have hkl : k < zs.length := by rw [HL.out]; exact hlt
          have h0 : w.cell? ⟨b, o + k, none⟩ = some (.string (zs.getD k ByteArray.empty)) := hc k hlt
          obtain ⟨_, _, hb, _⟩ := id hI.out
          have hcell : wr.cell? ⟨b, o + k, none⟩ = some (.string (zs.getD k ByteArray.empty)) := by rw [hb.cell (World.block_lt_of_cell? w _ h0)]; exact h0
          have hzk : zs[k]? = some (zs.getD k ByteArray.empty) := by simp [List.getD, hkl]
          obtain ⟨s', hs⟩ : ∃ s, zs.getD k ByteArray.empty = s := ⟨_, rfl⟩
          rw [hs] at hcell hzk
          clear hc h0 hs hkl
          by_cases h6 : 65536 < s'.size
          · have e2 : decide ((65536 : Int) < (s'.size : Int)) = true := decide_eq_true (by omega)
            have e2' : decide (65536 < s'.size) = true := decide_eq_true h6
            have hr : reqS zs = (⟨#[]⟩, 1) := by
              unfold reqS
              rw [if_pos (.inr (.inr (by rw [List.any_eq_true]; exact ⟨s', List.mem_of_getElem? hzk, decide_eq_true h6⟩)))]
            have HRs := Lib.hid hr
            have HB := Lib.hid hb
            clear hr hb hI hzk h6 hK
            go_wp2_with fail
            go_ret2
            exact ⟨by rw [HRs.out] <;> rfl, HB.out⟩
          · have e2 : decide ((65536 : Int) < (s'.size : Int)) = false := decide_eq_false (by omega)
            have e2' : decide (65536 < s'.size) = false := decide_eq_false h6
            have HC := Lib.hid (hI.out.next hzk (by have := HN.out; omega) (by omega))
            clear hI hzk h6 hb hK
            go_wp2_with fail
            refine HC.out.mono ?_
            rintro e w5 ⟨v5, rfl, hN⟩
            obtain ⟨na, nn, nc, rfl⟩ : ∃ a n c, v5 = .slice a n c := by obtain ⟨a, c, e, _⟩ := hN.1.arg; exact ⟨_, _, _, e⟩
            have HNx := Lib.hid hN
            clear hN hcell
            go_wp2_with fail
            go_roundw
            case rel => exact ⟨k + 1, by omega, by go_num, HNx⟩
            case measure => simp [intOf]; omega
        · obtain rfl : n = k := by omega
          obtain ⟨g1, g2, g3, g4, g5⟩ := hI.out
          rw [List.take_of_length_le (by rw [HL.out]; exact Nat.le_refl _)] at g1 g5 hK
          have hcv := bytes_string g1
          have hr : reqS zs = (strOf (encR (cmdR zs)), 0) := by
            unfold reqS
            rw [if_neg ?_]
            rintro (h | h | h)
            · have := HL.out; have := HN.out; omega
            · have := HL.out; have := HN.out; omega
            · rw [List.any_eq_true] at h
              obtain ⟨s, hs, h⟩ := h
              have := g5 s hs
              have := of_decide_eq_true h
              omega
          have he : reqL n zs = encR (cmdR zs) := by
            have h1 : encR (cmdR zs) = 42 :: (Lib.itoa ((zs.map bulkR).length : Int) ++ (crlfB ++ encL (zs.map bulkR))) := by
              unfold cmdR
              simp only [encR]
              rfl
            rw [h1, List.length_map, HL.out]
          rw [he] at hcv
          have HRs := Lib.hid hr
          have HB := Lib.hid g3
          clear g1 g2 g3 g4 g5 hr he hI hlt hK
          go_wp2_with fail
          go_ret2
          exact ⟨by rw [HRs.out] <;> rfl, HB.out⟩
end Go.Proofs.YtpldbgdhflmjhaaDoor

/- resp.Request: the walk. -/
namespace Go.Proofs.YtpldbgdhflmjhaaDoor
set_option linter.unusedVariables false
set_option linter.unusedSimpArgs false
open Go.RowKit
/-- The reply that Request builds, behind so many texts. -/
def ReqI (w : World) (zs : List ByteArray) (k : Nat) (wr : World) : Prop :=
  ∃ v, wr.heap[w.heap.size]? = some (.cells #[.int .u8 6, .string ⟨#[]⟩, .int .i64 0, v] 25 (0, 0)) ∧ SliceN wr (w.heap.size + 1) 25 4 v k (((zs.take k).map bulkRC).flatMap repC) ∧ Below w.heap.size w wr ∧ w.heap.size + 1 ≤ wr.heap.size ∧ ∀ s ∈ zs.take k, s.size ≤ 65536
theorem ReqI.next {w wr : World} {zs : List ByteArray} {k : Nat} (h : ReqI w zs k wr) {s : ByteArray} (hs : zs[k]? = some s) (hk : k < 100000) (hsz : s.size ≤ 65536) :
    ∃ a n c a' n' c' w2, wr.cell? ⟨w.heap.size, 3, none⟩ = some (.slice a n c) ∧ (Builtin.append_ #[23, 23] 23 #[.slice a n c, .slice (some ⟨wr.heap.size, 0, none⟩) 1 1]).run Tryd.prog (wr.alloc (.cells #[.int .u8 4, .string s, .int .i64 0, .slice none 0 0] 25)) = .ok (.slice a' n' c') w2 ∧
      w2.cell? ⟨w.heap.size, 3, none⟩ = some (.slice a n c) ∧ w2.frozen? ⟨w.heap.size, 3, none⟩ = false ∧ ReqI w zs (k + 1) (w2.setCell ⟨w.heap.size, 3, none⟩ (.slice a' n' c')) := by
  obtain ⟨v, h1, h2, h3, h4, h5⟩ := h
  obtain ⟨a, c, rfl, _, _⟩ := id h2.form
  obtain ⟨i0, g1, g2, g3, g4⟩ := info_parts info_reply
  obtain ⟨v', w2, hr, s2, c2, hv2⟩ := run_append_oneN (P := Tryd.prog) (t := 23) (ty := 23) (z := 4) (w := wr) Tryd.underlying23 g1 g2 g3 g4 rfl h2 h4 (repC (bulkRC s)) rfl (by simp [repC, bulkRC, Value.oneCell']) (by unfold maxLen; omega) (by omega)
  obtain ⟨a', c', rfl, _, _⟩ := id s2.form
  have hne : ∀ x, vblock (.slice a k c) = some x → w.heap.size + 1 ≤ x := fun x hx => (h2.block_lt hx).1
  have hp := c2.keep h1 fun e => by have := hne _ e; omega
  have c3 : Chg (fun k => k = w.heap.size) w2 (w2.setCell ⟨w.heap.size, 3, none⟩ (.slice a' (k + 1) c')) := Chg.setCell _ _ _ _ rfl
  have htk : zs.take (k + 1) = zs.take k ++ [s] := by
    obtain ⟨hkl, hr'⟩ := List.getElem?_eq_some_iff.1 hs
    rw [List.take_succ_eq_append_getElem hkl, hr']
  refine ⟨a, k, c, a', k + 1, c', w2, cell_in h1 rfl, hr, cell_in hp rfl, frozen_in hp 3, .slice a' (k + 1) c', setCell_head hp 3 _, ?_, ?_, ?_, ?_⟩
  · have := s2.chg c3 fun x hx e => by have := (s2.block_lt hx).1; omega
    rw [htk, List.map_append, List.flatMap_append]
    simpa using this
  · exact belowChg (belowChg h3 c2 h3.size fun x hx _ => by have := hne x hx; omega) c3 (Nat.le_trans h3.size c2.size) fun x hx _ => by omega
  · exact Nat.le_trans h4 (Nat.le_trans c2.size c3.size)
  · intro y hy
    rw [htk] at hy
    rcases List.mem_append.1 hy with hy | hy
    · exact h5 y hy
    · have : y = s := by simpa using hy
      rw [this]; exact hsz
set_option maxHeartbeats 1600000 in
set_option maxRecDepth 100000 in
theorem request_any {w : World} (ht : Tab w) {a : Option Addr} {n c : Nat} {zs : List ByteArray} (hlen : zs.length = n) (ha : ArgRow w a n c fun i => .string (zs.getD i ByteArray.empty)) (hz : totalT zs ≤ 1048576) :
    Calls Tryd.prog 15 #[.slice a n c] w fun e w' => e = .returned (.tuple #[.string (reqS zs).1, .int .i64 (reqS zs).2]) ∧ Below w.heap.size w w' := by
  have hnc := ha.1
  have hn6 : n ≤ 1048576 := by unfold totalT at hz; omega
  have HA := Lib.hid ha
  have HL := Lib.hid hlen
  have HZ := Lib.hid hz
  have HT := Lib.hid ht
  by_cases h0 : n = 0
  · have hr : reqS zs = (⟨#[]⟩, 1) := by unfold reqS; rw [if_pos (.inl (by omega))]
    rw [hr]
    subst h0
    clear ha hlen hz ht
    go_enter Tryd.func15, Tryd.ntmps15
    go_wp2_with fail
    go_ret2
    exact ⟨rfl, Below.refl _ _⟩
  · have e0 : ((n : Int) == 0) = false := by rw [beq_eq_false_iff_ne]; omega
    by_cases h1 : 1024 < n
    · have hr : reqS zs = (⟨#[]⟩, 1) := by unfold reqS; rw [if_pos (.inr (.inl (by omega)))]
      rw [hr]
      have e1 : decide ((1024 : Int) < (n : Int)) = true := decide_eq_true (by omega)
      have e1' : decide (1024 < n) = true := decide_eq_true h1
      clear ha hlen hz ht h0 h1
      go_enter Tryd.func15, Tryd.ntmps15
      go_wp2_with fail
      go_ret2
      exact ⟨rfl, Below.refl _ _⟩
    · have e1 : decide ((1024 : Int) < (n : Int)) = false := decide_eq_false (by omega)
      have e1' : decide (1024 < n) = false := decide_eq_false h1
      have HN := Lib.hid (And.intro h0 h1)
      obtain ⟨w1, hw1⟩ : ∃ w1, w1 = w.alloc (.cells #[.int .u8 6, .string ⟨#[]⟩, .int .i64 0, .slice none 0 0] 25) := ⟨_, rfl⟩
      have H0 := Lib.hid (show ReqI w zs 0 w1 from by
        rw [hw1]
        exact ⟨_, heap_new _ _, SliceN.nil _ _ _ _, (Below.refl _ _).alloc (Nat.le_refl _) _, by simp, by simp⟩)
      have HW := Lib.hid hw1
      clear ha hlen hz ht h0 h1 hw1
      go_enter Tryd.func15, Tryd.ntmps15
      go_wp2_with fail
      rw [← HW.out]
      go_loopw [18] (fun i wr => ∃ k : Nat, k ≤ n ∧ i = .int .i64 k ∧ Hid (ReqI w zs k wr)) (fun i _ => n - (intOf i).toNat)
      case atStart => exact ⟨0, Nat.zero_le _, rfl, H0⟩
      case round =>
        obtain ⟨k, hk, rfl, hI⟩ := hrel
        by_cases hlt : k < n
        · obtain ⟨b, o, e, hc⟩ := HA.out.2.resolve_left (by omega)
          subst e
          have hkl : k < zs.length := by rw [HL.out]; exact hlt
          have h0 : w.cell? ⟨b, o + k, none⟩ = some (.string (zs.getD k ByteArray.empty)) := hc k hlt
          obtain ⟨_, _, _, hb, _⟩ := id hI.out
          have hcell : wr.cell? ⟨b, o + k, none⟩ = some (.string (zs.getD k ByteArray.empty)) := by rw [hb.cell (World.block_lt_of_cell? w _ h0)]; exact h0
          have hzk : zs[k]? = some (zs.getD k ByteArray.empty) := by simp [List.getD, hkl]
          obtain ⟨s, hs⟩ : ∃ s, zs.getD k ByteArray.empty = s := ⟨_, rfl⟩
          rw [hs] at hcell hzk
          clear hc h0 hs hkl hb
          by_cases h6 : 65536 < s.size
          · have e2 : decide ((65536 : Int) < (s.size : Int)) = true := decide_eq_true (by omega)
            have e2' : decide (65536 < s.size) = true := decide_eq_true h6
            have hr : reqS zs = (⟨#[]⟩, 1) := by
              unfold reqS
              rw [if_pos (.inr (.inr (by rw [List.any_eq_true]; exact ⟨s, List.mem_of_getElem? hzk, decide_eq_true h6⟩)))]
            have HRs := Lib.hid hr
            obtain ⟨_, _, _, hb, _⟩ := id hI.out
            have HB := Lib.hid hb
            clear hr hb hI hzk h6
            go_wp2_with fail
            go_ret2
            exact ⟨by rw [HRs.out] <;> rfl, HB.out⟩
          · have e2 : decide ((65536 : Int) < (s.size : Int)) = false := decide_eq_false (by omega)
            have e2' : decide (65536 < s.size) = false := decide_eq_false h6
            have hk1 : k < 100000 := by have := HN.out; omega
            obtain ⟨ka, kn, kc, ka', kn', kc', w2, q1, hr, q2, q3, hN⟩ := hI.out.next hzk hk1 (by omega)
            obtain ⟨w3, hw3⟩ : ∃ w3, w3 = w2.setCell ⟨w.heap.size, 3, none⟩ (.slice ka' kn' kc') := ⟨_, rfl⟩
            rw [← hw3] at hN
            have HNx := Lib.hid hN
            have HAp := Lib.hid hr
            have HW3 := Lib.hid hw3
            clear hr hN hI hzk h6 hw3
            go_wp2_with (at_builtin; refine wpList_append_run rfl rfl HAp.out ?_)
            rw [← HW3.out]
            go_roundw
            case rel => exact ⟨k + 1, by omega, by go_num, HNx⟩
            case measure => simp [intOf]; omega
        · obtain rfl : n = k := by omega
          obtain ⟨v, g1, g2, g3, g4, g5⟩ := hI.out
          rw [List.take_of_length_le (by rw [HL.out]; exact Nat.le_refl _)] at g2 g5
          have g2' : SliceN wr (w.heap.size + 1) 25 4 v zs.length ((zs.map bulkRC).flatMap repC) := by rw [HL.out]; exact g2
          obtain ⟨va, vc, rfl, hrow⟩ := bulk_row g2'
          have hrv : RepV wr (cmdR zs) (.agg #[.int .u8 6, .string ⟨#[]⟩, .int .i64 0, .slice va (cmdR zs).l.length vc]) := ⟨va, vc, rfl, by simp [cmdR, Rep.k, Rep.n], by rw [cmdR_l, List.length_map]; exact hrow⟩
          have hsz : sizeR (cmdR zs) ≤ 1100000 := by
            rw [size_cmd]
            have h1 := HZ.out
            have h2 := HL.out
            have h3 := HN.out
            unfold totalT at h1
            omega
          have hE := encode_any (HT.out.below g3) hrv hsz
          rw [enc_cmd, cmdR_l, List.length_map, HL.out] at hE
          have hr : reqS zs = (strOf (encR (cmdR zs)), 0) := by
            unfold reqS
            rw [if_neg ?_]
            rintro (h | h | h)
            · have := HL.out; have := HN.out; omega
            · have := HL.out; have := HN.out; omega
            · rw [List.any_eq_true] at h
              obtain ⟨s, hs, h⟩ := h
              have := g5 s hs
              have := of_decide_eq_true h
              omega
          have c0 := cell_in g1 (i := 0) rfl
          have c1 := cell_in g1 (i := 1) rfl
          have c2 := cell_in g1 (i := 2) rfl
          have c3 := cell_in g1 (i := 3) rfl
          have HE := Lib.hid hE
          have HRs := Lib.hid hr
          have HB := Lib.hid g3
          rw [HL.out] at c0 c1 c2 c3
          clear g1 g2 g2' g3 g4 g5 hrow hrv hsz hE hr hI hlt
          go_wp2_with fail
          refine HE.out.mono ?_
          rintro e w4 ⟨rfl, b4⟩
          have HB4 := Lib.hid (HB.out.trans (b4.mono HB.out.size))
          clear b4
          go_wp2_with fail
          go_ret2
          exact ⟨by rw [HRs.out] <;> rfl, HB4.out⟩
end Go.Proofs.YtpldbgdhflmjhaaDoor

/- LeftReply, LeftReplies: a copy is still what it was made of. -/
namespace Go.Proofs.YtpldbgdhflmjhaaDoor
set_option linter.unusedVariables false
set_option linter.unusedSimpArgs false
open Go.RowKit
theorem TwinL.below {w w' : World} {Q : Nat → Prop} {r : Rep} {a : Option Addr} {c : Nat} (h : TwinL w Q r a c) (hb : Below w.heap.size w w') : TwinL w' Q r a c := h.chg (Chg.of_below (fun _ => False) hb) fun b _ hb => ⟨hb, id⟩
abbrev LeftOk (r : Rep) : Prop := ∀ (w : World) (Q : Nat → Prop) (a : Option Addr) (c : Nat) (v : Value), TwinL w Q r a c → RepV w r v → sizeR r ≤ 1048576 → Calls Tryd.prog 17 #[.agg (repC ⟨r, a, c⟩).toArray, v] w fun e w' => e = .returned (.bool true) ∧ Below w.heap.size w w'
set_option maxHeartbeats 3200000 in
set_option maxRecDepth 100000 in
theorem leftReplies_of {l : List Rep} (ih : ∀ r ∈ l, LeftOk r) {w : World} {Q : Nat → Prop} {g cap : Nat} {a : Option Addr} {n c : Nat} (ht : TwinL w Q (.mk 0 ⟨#[]⟩ 0 l) (some ⟨g, 0, none⟩) cap) (h : RepRow w a n c l) (hs : n + sizeL l ≤ 1048576) :
    Calls Tryd.prog 34 #[.slice (some ⟨g, 0, none⟩) n cap, .slice a n c] w fun e w' => e = .returned (.bool true) ∧ Below w.heap.size w w' := by
  obtain ⟨g', e, _, ⟨hc1, hc2⟩, hg, hel, hmk⟩ := ht.parts
  cases e
  have hl := h.1
  have hall : ∀ r ∈ l, sizeR r ≤ 1048576 := fun r hr => by have := sizeL_mem hr; omega
  have hn6 : n ≤ 1048576 := by omega
  have hc1 : n + 1 ≤ cap := by rw [← hl]; exact hc1
  have hmk' : ∀ j, j < 4 → w.cell? ⟨g, n * 4 + j, none⟩ = some ((repC ⟨spareR, none, 0⟩).getD j undef) := fun j hj => by rw [← hl]; exact hmk j hj
  have HR := Lib.hid h
  have HI := Lib.hid (And.intro ih hall)
  have HE := Lib.hid (show ∀ i (h : i < l.length), RcOk l[i] ∧ ∃ a c, (∀ j, j < 4 → w.cell? ⟨g, i * 4 + j, none⟩ = some ((repC ⟨l[i], a, c⟩).getD j undef)) ∧ TwinL w Q l[i] a c from hel)
  have HM := Lib.hid hmk'
  unfold maxLen at hc2
  clear h ih hall ht hel hmk hmk' hs
  have e1 : ((n : Int) == (n : Int)) = true := by simp
  have e2 : decide ((cap : Int) ≤ (n : Int)) = false := by simp; omega
  have e2' : decide (cap ≤ n) = false := by simp; omega
  have e3 : IntKind.i64.wrap ((n : Int) + 1) = (n : Int) + 1 := IntWalk.i64_in _ (by omega)
  have HL := Lib.hid hl
  clear hl
  go_enter Tryd.func34, Tryd.ntmps34
  go_wp2_with fail
  go_loopw [5] (fun i wr => ∃ k : Nat, k ≤ n ∧ i = .int .i64 k ∧ Hid (Below w.heap.size w wr)) (fun i _ => n - (intOf i).toNat)
  case atStart => exact ⟨0, Nat.zero_le _, rfl, Lib.hid (Below.refl _ _)⟩
  case round =>
    obtain ⟨k, hk, rfl, hI⟩ := hrel
    by_cases hlt : k < n
    · obtain ⟨b, o, r, a', c', rfl, hr, ⟨d0, d1, d2, d3⟩, hv⟩ := HR.out.cells hlt
      obtain ⟨hkl, hr'⟩ := List.getElem?_eq_some_iff.1 hr
      have hmem := List.mem_of_getElem? hr
      obtain ⟨ho, a2, c2, he, ht⟩ := HE.out k hkl
      rw [hr'] at ho he ht
      have c0 := he 0 (by omega)
      have c1 := he 1 (by omega)
      have c2' := he 2 (by omega)
      have c3 := he 3 (by omega)
      simp only [repC, List.getD_cons_zero, List.getD_cons_succ, Nat.add_zero] at c0 c1 c2' c3
      have HC := Lib.hid (fun w' (hb : Below w.heap.size w w') => HI.out.1 r hmem w' Q a2 c2 _ (ht.below hb) (hv.below hb) (HI.out.2 r hmem))
      have hst : ∀ w', Below w.heap.size w w' → ((w'.cell? ⟨g, k * 4, none⟩ = some (.int .u8 r.k) ∧ w'.cell? ⟨g, k * 4 + 1, none⟩ = some (.string r.t)) ∧ w'.cell? ⟨g, k * 4 + 2, none⟩ = some (.int .i64 r.n) ∧ w'.cell? ⟨g, k * 4 + 3, none⟩ = some (.slice a2 r.l.length c2)) ∧
          (w'.cell? ⟨b, o + k * 4, none⟩ = some (.int .u8 r.k) ∧ w'.cell? ⟨b, o + k * 4 + 1, none⟩ = some (.string r.t)) ∧ w'.cell? ⟨b, o + k * 4 + 2, none⟩ = some (.int .i64 r.n) ∧ w'.cell? ⟨b, o + k * 4 + 3, none⟩ = some (.slice a' r.l.length c') := fun w' hb => by
        have e : ∀ q x v, w.cell? ⟨q, x, none⟩ = some v → w'.cell? ⟨q, x, none⟩ = some v := fun q x v hv => (hb.cell (p := ⟨q, x, none⟩) (World.block_lt_of_cell? w _ hv)).trans hv
        exact ⟨⟨⟨e _ _ _ c0, e _ _ _ c1⟩, e _ _ _ c2', e _ _ _ c3⟩, ⟨e _ _ _ d0, e _ _ _ d1⟩, e _ _ _ d2, e _ _ _ d3⟩
      have HSt := Lib.hid hst
      obtain ⟨X1, fw, hX1, hfw, hF⟩ := classOf (fun w' => ((w'.cell? ⟨g, k * 4, none⟩ = some (.int .u8 r.k) ∧ w'.cell? ⟨g, k * 4 + 1, none⟩ = some (.string r.t)) ∧ w'.cell? ⟨g, k * 4 + 2, none⟩ = some (.int .i64 r.n) ∧ w'.cell? ⟨g, k * 4 + 3, none⟩ = some (.slice a2 r.l.length c2)) ∧
          (w'.cell? ⟨b, o + k * 4, none⟩ = some (.int .u8 r.k) ∧ w'.cell? ⟨b, o + k * 4 + 1, none⟩ = some (.string r.t)) ∧ w'.cell? ⟨b, o + k * 4 + 2, none⟩ = some (.int .i64 r.n) ∧ w'.cell? ⟨b, o + k * 4 + 3, none⟩ = some (.slice a' r.l.length c')) (w := wr.drew) (hst _ (belowN hI.out 1))
      have k0 := fun x => (hfw x).1.1.1
      have k1 := fun x => (hfw x).1.1.2
      have k2 := fun x => (hfw x).1.2.1
      have k3 := fun x => (hfw x).1.2.2
      have k4 := fun x => (hfw x).2.1.1
      have k5 := fun x => (hfw x).2.1.2
      have k6 := fun x => (hfw x).2.2.1
      have k7 := fun x => (hfw x).2.2.2
      have HFa := Lib.hid (show ∀ w', Below w.heap.size w w' → ∃ x : X1, w' = fw x from fun w' hb => hF w' (hst w' hb))
      clear hst hF hfw c0 c1 c2' c3 d0 d1 d2 d3 he ht ho hv hr hkl hr' hmem
      unfold repC at HC
      go_upto_region 6 with (fail)
      refine wp_region_text ⟨[8], [], 10⟩ (fun w' => ∃ x : X1, w' = fw x) (by kernel_rfl) (by kernel_rfl) (HFa.out _ (belowN hI.out 1)) ?_
      refine wpC_seg false (HFa.out _ (belowN hI.out 1)) 8 0 _ _ (by rfl) (by rfl) ?_
      simp only [List.take_succ_cons, List.take_zero, List.drop_succ_cons, List.drop_zero, Bool.false_eq_true, if_false, Nat.zero_add, Nat.reduceAdd]
      repeat (go_big_quiet_step (fail))
      refine wpQuiet_nil ?_
      refine wpC_loud (by rfl) (by rfl) fun K hK => ?_
      go_wp2_with fail
      refine (HC.out _ (belowN hI.out 1)).mono ?_
      rintro e w2 ⟨rfl, b2⟩
      have HB := Lib.hid ((belowN hI.out 1).trans (b2.mono (belowN hI.out 1).size))
      refine hK _ _ (fun _ => HFa.out _ HB.out) ?_
      clear hK b2
      refine wpC_seg false (HFa.out _ HB.out) 1 9 _ _ (by rfl) (by rfl) ?_
      simp only [List.take_succ_cons, List.take_zero, List.drop_succ_cons, List.drop_zero, Bool.false_eq_true, if_false, Nat.zero_add, Nat.reduceAdd]
      repeat (go_big_quiet_step (fail))
      refine wpQuiet_nil ?_
      refine wpC_nil ?_
      clear k0 k1 k2 k3 k4 k5 k6 k7 HFa
      go_wp2_with fail
      go_roundw
      case rel => exact ⟨k + 1, by omega, by go_num, HB⟩
      case measure => simp [intOf]; omega
    · obtain rfl : n = k := by omega
      have hm := fun j (hj : j < 4) => (hI.out.cell (p := ⟨g, n * 4 + j, none⟩) hg).trans (HM.out j hj)
      have d0 := hm 0 (by omega)
      have d1 := hm 1 (by omega)
      have d2 := hm 2 (by omega)
      have d3 := hm 3 (by omega)
      simp only [repC, spareR, spareB, Rep.k, Rep.t, Rep.n, Rep.l, List.getD_cons_zero, List.getD_cons_succ, Nat.add_zero, List.length_nil] at d0 d1 d2 d3
      obtain ⟨W2, hW2⟩ : ∃ W2, W2 = wr.alloc (.cells #[.int .u8 0, .string spareB, .int .i64 0, .slice none 0 0] 25) := ⟨_, rfl⟩
      have HB := Lib.hid hI.out
      clear hI hm
      go_wp2_with fail
      go_ret
      exact ⟨rfl, HB.out.alloc HB.out.size _⟩
set_option maxHeartbeats 1600000 in
set_option maxRecDepth 100000 in
theorem leftReply_any (r : Rep) : LeftOk r := by
  induction r using Rep.ind with
  | h k t n l ih =>
    rintro w Q a c v ht ⟨a', c', rfl, hok, hrow⟩ hs
    simp only [repC, Rep.k, Rep.t, Rep.n, Rep.l] at *
    simp only [sizeR] at hs
    obtain ⟨g, rfl, _⟩ := ht.parts
    obtain ⟨w1, hw1⟩ : ∃ w1, w1 = (w.alloc (.cells #[.int .u8 k, .string t, .int .i64 n, .slice (some ⟨g, 0, none⟩) l.length c] 25)).alloc (.cells #[.int .u8 k, .string t, .int .i64 n, .slice a' l.length c'] 25) := ⟨_, rfl⟩
    have hb1 : Below w.heap.size w w1 := by rw [hw1]; exact ((Below.refl _ _).alloc (Nat.le_refl _) _).alloc (by simp) _
    have k1 : w1.heap[w.heap.size]? = some (.cells #[.int .u8 k, .string t, .int .i64 n, .slice (some ⟨g, 0, none⟩) l.length c] 25 (0, 0)) := by rw [hw1]; exact heap_old (heap_new _ _) _
    have k2 : w1.heap[w.heap.size + 1]? = some (.cells #[.int .u8 k, .string t, .int .i64 n, .slice a' l.length c'] 25 (0, 0)) := by
      rw [hw1]
      have := heap_new (w.alloc (.cells #[.int .u8 k, .string t, .int .i64 n, .slice (some ⟨g, 0, none⟩) l.length c] 25)) (.cells #[.int .u8 k, .string t, .int .i64 n, .slice a' l.length c'] 25)
      rw [World.size_alloc] at this
      exact this
    have ht' : TwinL w1 Q (.mk 0 ⟨#[]⟩ 0 l) (some ⟨g, 0, none⟩) c := by have := ht.below hb1; simp only [TwinL] at this ⊢; exact this
    have HS := Lib.hid (leftReplies_of ih ht' (hrow.below hb1) (by omega))
    obtain ⟨m, hm⟩ : ∃ m, l.length = m := ⟨_, rfl⟩
    rw [hm] at k1 k2 HS hw1 ⊢
    have c0 := cell_in k1 (i := 0) rfl
    have c1 := cell_in k1 (i := 1) rfl
    have c2 := cell_in k1 (i := 2) rfl
    have c3 := cell_in k1 (i := 3) rfl
    have d0 := cell_in k2 (i := 0) rfl
    have d1 := cell_in k2 (i := 1) rfl
    have d2 := cell_in k2 (i := 2) rfl
    have d3 := cell_in k2 (i := 3) rfl
    have HW := Lib.hid hw1
    have HB := Lib.hid hb1
    clear ht ht' hrow ih hok hs hw1 hb1 k1 k2 hm
    go_enter Tryd.func17, Tryd.ntmps17
    go_wp2_with fail
    rw [← HW.out]
    refine HS.out.mono ?_
    rintro e' w2 ⟨rfl, b2⟩
    have HR := Lib.hid b2
    clear b2
    go_wp2_with fail
    go_ret
    exact ⟨rfl, HB.out.trans (HR.out.mono HB.out.size)⟩
end Go.Proofs.YtpldbgdhflmjhaaDoor

/- RespEncodes: the walk. -/
namespace Go.Proofs.YtpldbgdhflmjhaaDoor
set_option linter.unusedVariables false
set_option linter.unusedSimpArgs false
open Go.RowKit
set_option maxHeartbeats 800000 in
set_option maxRecDepth 100000 in
theorem twinCommand (w : World) (a : Option Addr) (n c : Nat) (zs : List ByteArray) (hlen : zs.length = n) (ha : ArgRow w a n c fun i => .string (zs.getD i ByteArray.empty)) (hn : n ≤ 4000000) :
    Calls Tryd.prog 12 #[.slice a n c] w fun e w' => (∃ v, e = .returned v ∧ TwinT w' w.heap.size v zs) ∧ Below w.heap.size w w' := by
  have HT := Lib.hid (twinTexts_any w a n c zs hlen ha hn)
  clear ha hlen
  go_enter Tryd.func12, Tryd.ntmps12
  go_wp2_with fail
  refine HT.out.mono ?_
  rintro e w2 ⟨⟨v, rfl, hv⟩, b2⟩
  obtain ⟨g, cap, rfl, _⟩ := id hv
  have H2 := Lib.hid (And.intro hv b2)
  clear hv b2
  go_wp2_with fail
  go_ret
  exact ⟨⟨_, rfl, H2.out.1⟩, H2.out.2⟩
set_option maxHeartbeats 800000 in
set_option maxRecDepth 100000 in
theorem leftCommand (w : World) {B : Nat} {v : Value} (a' : Option Addr) (n c' : Nat) (zs : List ByteArray) (h : TwinT w B v zs) (hlen : zs.length = n) (h' : ArgRow w a' n c' fun i => .string (zs.getD i ByteArray.empty)) (hn : n ≤ 4000000) :
    Calls Tryd.prog 18 #[v, .slice a' n c'] w fun e w' => e = .returned (.bool true) ∧ Below w.heap.size w w' := by
  have HT := Lib.hid (leftTexts_any w a' n c' zs h hlen h' hn)
  obtain ⟨g, cap, rfl, _⟩ := id h
  clear h h' hlen
  go_enter Tryd.func18, Tryd.ntmps18
  go_wp2_with fail
  refine HT.out.mono ?_
  rintro e w2 ⟨rfl, b2⟩
  have H2 := Lib.hid b2
  clear b2
  go_wp2_with fail
  go_ret
  exact ⟨rfl, H2.out⟩
theorem argRow_below {w w' : World} {a : Option Addr} {n c : Nat} {f : Nat → Value} (h : ArgRow w a n c f) (hb : Below w.heap.size w w') : ArgRow w' a n c f := by
  refine ⟨h.1, h.2.imp id ?_⟩
  rintro ⟨b, o, e, hc⟩
  exact ⟨b, o, e, fun i hi => (hb.cell (p := ⟨b, o + i, none⟩) (World.block_lt_of_cell? w _ (hc i hi))).trans (hc i hi)⟩
set_option maxHeartbeats 6400000 in
set_option maxRecDepth 100000 in
theorem respEncodes_walk {w : World} (ht : Tab w) {r : Rep} {v : Value} (hv : RepV w r v) (a : Option Addr) (n c : Nat) (zs : List ByteArray) (hlen : zs.length = n) (ha : ArgRow w a n c fun i => .string (zs.getD i ByteArray.empty)) (hs : sizeR r + totalT zs ≤ 1048576) :
    Calls Tryd.prog 3 #[v, .slice a n c] w fun e w' => e = .returned (.bool true) ∧ Below w.heap.size w w' := by
  obtain ⟨ra, rc, rfl, hok, hrow⟩ := id hv
  have hn6 : n ≤ 1048576 := by unfold totalT at hs; omega
  have hnc := ha.1
  obtain ⟨w1, hw1⟩ : ∃ w1, w1 = w.alloc (.cells #[.int .u8 r.k, .string r.t, .int .i64 r.n, .slice ra r.l.length rc] 25) := ⟨_, rfl⟩
  have hb1 : Below w.heap.size w w1 := by rw [hw1]; exact (Below.refl _ _).alloc (Nat.le_refl _) _
  have k1 : w1.heap[w.heap.size]? = some (.cells #[.int .u8 r.k, .string r.t, .int .i64 r.n, .slice ra r.l.length rc] 25 (0, 0)) := by rw [hw1]; exact heap_new _ _
  have HK := Lib.hid (show ∀ w', Below w1.heap.size w1 w' → w'.heap[w.heap.size]? = some (.cells #[.int .u8 r.k, .string r.t, .int .i64 r.n, .slice ra r.l.length rc] 25 (0, 0)) from fun w' hb => (hb.block _ (heap_lt k1)).trans k1)
  have HV := Lib.hid (And.intro ht (And.intro hv (And.intro hlen (And.intro ha hs))))
  have HB1 := Lib.hid hb1
  have HW := Lib.hid hw1
  have HS := Lib.hid (replySize_any r w1 _ (hv.below hb1) (by omega))
  obtain ⟨z1, hz1⟩ : ∃ z, sizeR r = z := ⟨_, rfl⟩
  obtain ⟨z2, hz2⟩ : ∃ z, totalT zs = z := ⟨_, rfl⟩
  rw [hz1] at HS
  have HZ := Lib.hid (And.intro hz1 (And.intro hz2 (show z1 + z2 ≤ 1048576 by omega)))
  have c0 := cell_in k1 (i := 0) rfl
  have c1 := cell_in k1 (i := 1) rfl
  have c2 := cell_in k1 (i := 2) rfl
  have c3 := cell_in k1 (i := 3) rfl
  clear hv ha hlen hs ht hw1 hb1 k1 hok hrow hz1 hz2
  go_enter Tryd.func3, Tryd.ntmps3
  go_wp2_with fail
  rw [← HW.out]
  refine HS.out.mono ?_
  rintro e w2 ⟨rfl, b2⟩
  have HB2 := Lib.hid b2
  have hC := textsSize_any w2 a n c zs HV.out.2.2.1 (argRow_below (argRow_below HV.out.2.2.2.1 HB1.out) (b2.mono (Nat.le_refl _))) (by have := HV.out.2.2.2.2; omega)
  rw [HZ.out.2.1] at hC
  have HC := Lib.hid hC
  clear b2 hC
  go_wp2_with fail
  refine HC.out.mono ?_
  rintro e w' ⟨rfl, rfl⟩
  obtain ⟨w4, hw4⟩ : ∃ w4, w4 = w2.alloc (.cells #[.int .i64 (z1 : Int), .int .i64 (z2 : Int)] 3) := ⟨_, rfl⟩
  have hB4 : Below w1.heap.size w1 w4 := by rw [hw4]; exact HB2.out.alloc HB2.out.size _
  have hBy := beyond_any w4 (some ⟨w2.heap.size, 0, none⟩) 2 2 [z1, z2] rfl ⟨Nat.le_refl _, .inr ⟨w2.heap.size, 0, rfl, fun i hi => by
      rw [hw4]
      rcases (show i = 0 ∨ i = 1 by omega) with rfl | rfl
      · exact cell_in (heap_new _ _) rfl
      · exact cell_in (heap_new _ _) rfl⟩⟩ (by have := HZ.out.2.2; simp; omega) (by omega)
  rw [show decide (1048576 < [z1, z2].sum) = false from decide_eq_false (by have := HZ.out.2.2; simp; omega)] at hBy
  have HBy := Lib.hid hBy
  have HB4 := Lib.hid hB4
  have HW4 := Lib.hid hw4
  clear c0 c1 c2 c3 hBy hB4 hw4
  go_wp2_with fail
  rw [← HW4.out]
  refine HBy.out.mono ?_
  rintro e w' ⟨rfl, rfl⟩
  have k4 := HK.out _ HB4.out
  have c0 := cell_in k4 (i := 0) rfl
  have c1 := cell_in k4 (i := 1) rfl
  have c2 := cell_in k4 (i := 2) rfl
  have c3 := cell_in k4 (i := 3) rfl
  have HT := Lib.hid (show Calls Tryd.prog 11 #[.agg #[.int .u8 r.k, .string r.t, .int .i64 r.n, .slice ra r.l.length rc]] w4 fun e w' => (∃ a c, e = .returned (.agg #[.int .u8 r.k, .string r.t, .int .i64 r.n, .slice a r.l.length c]) ∧ TwinL w' (fun b => w4.heap.size ≤ b) r a c) ∧ Below w4.heap.size w4 w' from twinReply_any r w4 _ ((HV.out.2.1.below HB1.out).below HB4.out) (by have := HV.out.2.2.2.2; omega))
  clear k4 HBy HC HS
  go_wp2_with fail
  refine HT.out.mono ?_
  rintro e w5 ⟨⟨ta, tc, rfl, ht5⟩, b5⟩
  have HT5 := Lib.hid (And.intro ht5 b5)
  clear ht5 b5 HT c0 c1 c2 c3
  obtain ⟨w6, hw6⟩ : ∃ w6, w6 = w5.alloc (.cells #[.int .u8 r.k, .string r.t, .int .i64 r.n, .slice ta r.l.length tc] 25) := ⟨_, rfl⟩
  have b46 : Below w4.heap.size w4 w6 := by rw [hw6]; exact HT5.out.2.alloc HT5.out.2.size _
  have b56 : Below w5.heap.size w5 w6 := by rw [hw6]; exact (Below.refl _ _).alloc (Nat.le_refl _) _
  have b16 : Below w1.heap.size w1 w6 := HB4.out.trans (b46.mono HB4.out.size)
  have b06 : Below w.heap.size w w6 := HB1.out.trans (b16.mono HB1.out.size)
  have k6 : w6.heap[w5.heap.size]? = some (.cells #[.int .u8 r.k, .string r.t, .int .i64 r.n, .slice ta r.l.length tc] 25 (0, 0)) := by rw [hw6]; exact heap_new _ _
  have HK6 := Lib.hid (show ∀ w', Below w6.heap.size w6 w' → w'.heap[w5.heap.size]? = some (.cells #[.int .u8 r.k, .string r.t, .int .i64 r.n, .slice ta r.l.length tc] 25 (0, 0)) from fun w' hb => (hb.block _ (heap_lt k6)).trans k6)
  have HL6 := Lib.hid (show ∀ w', Below w6.heap.size w6 w' → TwinL w' (fun b => w4.heap.size ≤ b) r ta tc from fun w' hb => (HT5.out.1.below b56).below hb)
  have HB6 := Lib.hid (show ∀ w', Below w6.heap.size w6 w' → Below w1.heap.size w1 w' ∧ Below w.heap.size w w' from fun w' hb => ⟨b16.trans (hb.mono b16.size), b06.trans (hb.mono b06.size)⟩)
  obtain ⟨s1, hs1⟩ : ∃ z, encS r = z := ⟨_, rfl⟩
  obtain ⟨s1, n1⟩ := s1
  obtain ⟨s2, hs2⟩ : ∃ z, reqS zs = z := ⟨_, rfl⟩
  obtain ⟨s2, n2⟩ := s2
  have HS1 := Lib.hid hs1
  have HS2 := Lib.hid hs2
  have HW6 := Lib.hid hw6
  have HC := Lib.hid (twinCommand w6 a n c zs HV.out.2.2.1 (argRow_below HV.out.2.2.2.1 b06) (by omega))
  clear hw6 b46 b56 b16 b06 k6 hs1 hs2
  go_wp2_with fail
  rw [← HW6.out]
  refine HC.out.mono ?_
  rintro e w7 ⟨⟨v7, rfl, h7⟩, b7⟩
  obtain ⟨g7, cap7, rfl, _⟩ := id h7
  have HT7 := Lib.hid (show ∀ w', Below w7.heap.size w7 w' → TwinT w' w6.heap.size _ zs from fun w' hb => h7.below hb)
  have hok : (0 ≤ r.k ∧ r.k ≤ 255) ∧ (-9223372036854775808 ≤ r.n ∧ r.n ≤ 9223372036854775807) := by
    obtain ⟨_, _, e, hok, _⟩ := HV.out.2.1
    exact hok
  have hE := encode_any (w := w7) (HV.out.1.below (HB6.out _ b7).2) (r := r) (v := .agg #[.int .u8 r.k, .string r.t, .int .i64 r.n, .slice ta r.l.length tc]) ⟨ta, tc, rfl, hok, (HL6.out _ b7).row⟩ (by have := HV.out.2.2.2.2; omega)
  rw [HS1.out] at hE
  have HE := Lib.hid hE
  have k7 := HK6.out _ b7
  have c0 := cell_in k7 (i := 0) rfl
  have c1 := cell_in k7 (i := 1) rfl
  have c2 := cell_in k7 (i := 2) rfl
  have c3 := cell_in k7 (i := 3) rfl
  have HB7 := Lib.hid b7
  clear HC h7 b7 hE k7
  go_wp2_with fail
  refine HE.out.mono ?_
  rintro e w8 ⟨rfl, b8⟩
  have b68 := HB7.out.trans (b8.mono HB7.out.size)
  have hE := refEncode (HV.out.2.1.below (HB6.out _ b68).2) (by have := HV.out.2.2.2.2; omega)
  rw [HS1.out] at hE
  have HE' := Lib.hid hE
  clear HE c0 c1 c2 c3 hE
  have k8 := HK.out _ (HB6.out _ b68).1
  have c0 := cell_in k8 (i := 0) rfl
  have c1 := cell_in k8 (i := 1) rfl
  have c2 := cell_in k8 (i := 2) rfl
  have c3 := cell_in k8 (i := 3) rfl
  have HB8 := Lib.hid (And.intro b68 b8)
  clear k8 b8 b68
  go_wp2_with fail
  refine HE'.out.mono ?_
  rintro e w9 ⟨rfl, b9⟩
  have b69 := HB8.out.1.trans (b9.mono HB8.out.1.size)
  have b79 := HB8.out.2.trans (b9.mono HB8.out.2.size)
  obtain ⟨aq, cq, eq, hq⟩ := texts_of_slice (HT7.out _ b79).slice
  simp only [Value.slice.injEq] at eq
  obtain ⟨rfl, _, rfl⟩ := eq
  have hR := request_any (w := w9) (HV.out.1.below (HB6.out _ b69).2) rfl hq (by have := HV.out.2.2.2.2; omega)
  rw [HS2.out] at hR
  have HR := Lib.hid hR
  have HB9 := Lib.hid (And.intro b69 b79)
  clear c0 c1 c2 c3 HE' b9 b69 b79 hq hR
  go_wp2_with fail
  refine HR.out.mono ?_
  rintro e w10 ⟨rfl, b10⟩
  have b6 := HB9.out.1.trans (b10.mono HB9.out.1.size)
  have b7 := HB9.out.2.trans (b10.mono HB9.out.2.size)
  have hR := refRequest (w := w10) HV.out.2.2.1 (argRow_below HV.out.2.2.2.1 (HB6.out _ b6).2) hn6
  rw [HS2.out] at hR
  have HR' := Lib.hid hR
  have HB10 := Lib.hid (And.intro b6 b7)
  clear HR hR b6 b7 b10
  go_wp2_with fail
  refine HR'.out.mono ?_
  rintro e w11 ⟨rfl, b11⟩
  have b6 := HB10.out.1.trans (b11.mono HB10.out.1.size)
  have b7 := HB10.out.2.trans (b11.mono HB10.out.2.size)
  have HLr := Lib.hid (show Calls Tryd.prog 17 #[.agg #[.int .u8 r.k, .string r.t, .int .i64 r.n, .slice ta r.l.length tc], .agg #[.int .u8 r.k, .string r.t, .int .i64 r.n, .slice ra r.l.length rc]] w11 fun e w' => e = .returned (.bool true) ∧ Below w11.heap.size w11 w' from leftReply_any r w11 _ ta tc _ (HL6.out _ b6) (HV.out.2.1.below (HB6.out _ b6).2) (by have := HV.out.2.2.2.2; omega))
  have HB11 := Lib.hid (And.intro b6 b7)
  have k6 := HK6.out _ b6
  have c0 := cell_in k6 (i := 0) rfl
  have c1 := cell_in k6 (i := 1) rfl
  have c2 := cell_in k6 (i := 2) rfl
  have c3 := cell_in k6 (i := 3) rfl
  have k1 := HK.out _ (HB6.out _ b6).1
  have d0 := cell_in k1 (i := 0) rfl
  have d1 := cell_in k1 (i := 1) rfl
  have d2 := cell_in k1 (i := 2) rfl
  have d3 := cell_in k1 (i := 3) rfl
  have e1 := str_eq (rfl : s1 = s1)
  have e2 := str_eq (rfl : s2 = s2)
  clear HR' b6 b7 b11 k6 k1
  go_wp2_with fail
  refine HLr.out.mono ?_
  rintro e w12 ⟨rfl, b12⟩
  have b6 := HB11.out.1.trans (b12.mono HB11.out.1.size)
  have b7 := HB11.out.2.trans (b12.mono HB11.out.2.size)
  have HLc := Lib.hid (leftCommand w12 a n c zs (HT7.out _ b7) HV.out.2.2.1 (argRow_below HV.out.2.2.2.1 (HB6.out _ b6).2) (by omega))
  have HB12 := Lib.hid b6
  clear b6 b7 b12 c0 c1 c2 c3 d0 d1 d2 d3 HLr
  go_wp2_with fail
  refine HLc.out.mono ?_
  rintro e w13 ⟨rfl, b13⟩
  have HB13 := Lib.hid (HB12.out.trans (b13.mono HB12.out.size))
  clear b13 HLc
  go_wp2_with fail
  go_ret
  exact ⟨rfl, (HB6.out _ HB13.out).2⟩
end Go.Proofs.YtpldbgdhflmjhaaDoor

/- what the list of variables of RespEncodes' row gives: Tab; and a world that meets it. -/
namespace Go.Proofs.YtpldbgdhflmjhaaDoor
set_option linter.unusedVariables false
set_option linter.unusedSimpArgs false
open Go.RowKit
namespace LayE
theorem laid_of {W : World} (h : laidMetH Tryd.prog Rows.respEncodesRow.laid W) (hs : W.ShapedOpen Tryd.prog) : Tab W := by
  have h0 : laidMet Tryd.prog Rows.respEncodesRow.laid W := h
  have h3 : laidMet Tryd.prog [("internal/strconv.uint64pow10", Rows.laid_internal_strconv_uint64pow10)] W := h0.tail.tail
  exact Lib.tabIs_of_head (n := 20) (g := 1) (by kernel_rfl) (by kernel_rfl) Tryd.underlying134 Tryd.underlying101 (by kernel_rfl) (by kernel_rfl) h3
def lits : List (DataW Unit) → Array Value
  | [] => #[]
  | .lit (.int k n) :: l => #[.int k n] ++ lits l
  | _ :: l => lits l
def table : DataW Unit → Array Value
  | .agg l => lits l
  | _ => #[]
def into (cs : Array Value) : Obj → Obj
  | .cells _ t frozen => .cells cs t frozen
  | o => o
noncomputable def laidWorld (os : Os) : World :=
  let w0 := World.holding Tryd.prog os ⟨#[], #[], []⟩
  { w0 with heap := ((w0.heap.modify 1 (into (table Rows.laid_internal_strconv_uint64pow10))).modify 4 (into (table Rows.laid_math_bits_deBruijn32tab))).modify 5 (into (table Rows.laid_math_bits_deBruijn64tab)) }
theorem laid_met (os : Os) (args : Array Value) : laidMet Tryd.prog Rows.respEncodesRow.laid ((laidWorld os).forCall (fun _ _ => 0) ⟨#[], args, []⟩).memory :=
  laidMet_of_run' 8 (by kernel_rfl) (by kernel_rfl)
end LayE
end Go.Proofs.YtpldbgdhflmjhaaDoor

/- Opening slices that came in, at a row that bounds what it reads. -/
namespace Go.Proofs.YtpldbgdhflmjhaaDoor
set_option linter.unusedVariables false
set_option linter.unusedSimpArgs false
open Go.RowKit Go.ChangeShapes Go.WideShapes Go.Deep
section
variable {H : Type} {enc : TypeId × Value → H} {w : World} {base : Nat} {spare : Nat → Bool} {held : Bool} {fuel : Nat}
theorem bulk_partT {d : DataW H} {l : List (DataW H)} (h : d ∈ l) : Rows.uptoBulk d ≤ Rows.uptoBulkAll l := by
  induction l with
  | nil => cases h
  | cons x r ih =>
    simp only [Rows.uptoBulkAll]
    rcases List.mem_cons.1 h with e | e
    · subst e; omega
    · have := ih e; omega
theorem bulk_texts (f : Nat → DataW H) (S : Nat → ByteArray) : ∀ (l : List Nat), (∀ i ∈ l, f i = .lit (.string (S i).data.toList)) → totalT (l.map S) ≤ Rows.uptoBulkAll (l.map f)
  | [], _ => by simp [totalT]
  | i :: l, h => by
    have h1 := bulk_texts f S l fun j hj => h j (by simp [hj])
    have h2 := h i (by simp)
    have e : (S i).data.toList.length = (S i).size := by rw [Array.length_toList]; rfl
    unfold totalT at *
    simp only [List.map_cons, Rows.uptoBulkAll, h2, Rows.uptoBulk, List.length_cons, List.sum_cons]
    omega
/-- A slice of texts. -/
theorem texts_arg {a : Option Addr} {len cap : Nat} {d : DataW H} {ps : List MemPlace} (h : DataW.Trod enc Tryd.prog w base spare held 26 (.slice a len cap) d ps) (hb : Rows.uptoBulk d ≤ 1048576) :
    ∃ zs : List ByteArray, (zs.length = len ∧ ArgRow w a len cap (fun i => .string (zs.getD i ByteArray.empty))) ∧ totalT zs ≤ 1048576 := by
  obtain ⟨fuel, hf⟩ := h
  rcases open_slice1 Tryd.underlying26 (by kernel_rfl) hf with ⟨hcs, _⟩ | ⟨x, l, c, m, n, V, D, Pl, hcs, hx, hl, hm, hmm, hd, hV⟩
  · simp [Value.cells] at hcs
    obtain ⟨rfl, rfl, rfl⟩ := hcs
    exact ⟨[], ⟨rfl, Nat.le_refl _, .inl rfl⟩, by decide⟩
  · simp [Value.cells] at hcs
    obtain ⟨rfl, rfl, rfl⟩ := hcs
    have hle : len ≤ m := by rw [hmm]; split <;> omega
    have each : ∀ i, i < m → ∃ s : ByteArray, V i = .string s ∧ D i = .lit (.string s.data.toList) := fun i hi => by
      obtain ⟨s, hs, hd, _⟩ := DataW.trod_string Tryd.underlying9 (hV i hi).2
      exact ⟨s, by simpa using hs, (Prod.mk.inj hd).1⟩
    obtain ⟨S, hS⟩ := choose_lt each
    have hd1 : d = .slice ((List.range len).map D) ((List.range (m - len)).map fun j => D (len + j)) := (Prod.mk.inj hd).1
    rw [hd1] at hb
    simp only [Rows.uptoBulk] at hb
    refine ⟨(List.range len).map S, ⟨by simp, argRow_of hl fun i hi => ?_⟩, ?_⟩
    · rw [(hV i (by omega)).1, (hS i (by omega)).1]
      simp [List.getD, hi]
    · have := bulk_texts D S (List.range len) fun i hi => (hS i (by have := List.mem_range.1 hi; omega)).2
      omega
end
end Go.Proofs.YtpldbgdhflmjhaaDoor

/- Opening a reply and a command that came in. -/
namespace Go.Proofs.YtpldbgdhflmjhaaDoor
set_option linter.unusedVariables false
set_option linter.unusedSimpArgs false
open Go.RowKit Go.ChangeShapes Go.WideShapes Go.Deep
section
variable {H : Type} {enc : TypeId × Value → H} {w : World} {base : Nat} {spare : Nat → Bool} {held : Bool}
theorem len4r {α : Type} {l : List α} (h : l.length = 4) : ∃ a b c d, l = [a, b, c, d] := by
  match l, h with
  | [a, b, c, d], _ => exact ⟨a, b, c, d, rfl⟩
/-- A reply: its cells, its list, and how much it has in it. -/
theorem open_reply : ∀ (fuel : Nat) {cs : List Value} {x : DataW H × List MemPlace}, DataW.trod enc Tryd.prog w base spare held fuel 25 cs = some x →
    ∃ (r : Rep) (a : Option Addr) (c : Nat), cs = [.int .u8 r.k, .string r.t, .int .i64 r.n, .slice a r.l.length c] ∧ RcOk r ∧ RepRow w a r.l.length c r.l ∧ sizeR r + 1 ≤ Rows.uptoBulk x.1 := by
  intro fuel
  induction fuel using Nat.strongRecOn with
  | ind fuel ih =>
    intro cs x h
    obtain ⟨xs, n, rfl, hx, hl, hlen, hf⟩ := DataW.trod_struct Tryd.underlying25 h
    have hC : Tryd.prog.cellsOf 25 = 4 := by kernel_rfl
    have hCk : Tryd.prog.cellsOf 22 = 1 := by kernel_rfl
    have hCs : Tryd.prog.cellsOf 9 = 1 := by kernel_rfl
    have hCi : Tryd.prog.cellsOf 2 = 1 := by kernel_rfl
    have hCl : Tryd.prog.cellsOf 23 = 1 := by kernel_rfl
    rw [hC] at hl
    obtain ⟨c0, c1, c2, c3, rfl⟩ := len4r hl
    obtain ⟨y0, y1, y2, y3, rfl⟩ := len4r hlen
    have g0 : DataW.trod enc Tryd.prog w base spare held n 22 (([c0, c1, c2, c3].drop 0).take (Tryd.prog.cellsOf 22)) = some y0 := hf 0 _ rfl
    have g1 : DataW.trod enc Tryd.prog w base spare held n 9 (([c0, c1, c2, c3].drop 1).take (Tryd.prog.cellsOf 9)) = some y1 := hf 1 _ rfl
    have g2 : DataW.trod enc Tryd.prog w base spare held n 2 (([c0, c1, c2, c3].drop 2).take (Tryd.prog.cellsOf 2)) = some y2 := hf 2 _ rfl
    have g3 : DataW.trod enc Tryd.prog w base spare held n 23 (([c0, c1, c2, c3].drop 3).take (Tryd.prog.cellsOf 23)) = some y3 := hf 3 _ rfl
    rw [hCk] at g0
    rw [hCs] at g1
    rw [hCi] at g2
    rw [hCl] at g3
    simp only [List.drop_zero, List.take_succ_cons, List.take_zero, List.drop_succ_cons] at g0 g1 g2 g3
    obtain ⟨k, e0, d0, hk⟩ := DataW.trod_int Tryd.underlying22 g0
    obtain ⟨t, e1, d1, _⟩ := DataW.trod_string Tryd.underlying9 g1
    obtain ⟨N, e2, d2, hN⟩ := DataW.trod_int Tryd.underlying2 g2
    simp only [List.cons.injEq, and_true] at e0 e1 e2
    have hk' : 0 ≤ k ∧ k ≤ 255 := by simpa [Lit.wf, IntKind.min, IntKind.max, IntKind.signed, IntKind.bits] using hk
    have hN' : -9223372036854775808 ≤ N ∧ N ≤ 9223372036854775807 := by simpa [Lit.wf, IntKind.min, IntKind.max, IntKind.signed, IntKind.bits] using hN
    have ht : t.data.toList.length = t.size := by rw [Array.length_toList]; rfl
    have hbx : Rows.uptoBulk x.1 = 1 + (t.size + 1) + 1 + Rows.uptoBulk y3.1 + 1 := by
      rw [hx, d0, d1, d2]
      simp only [List.map_cons, List.map_nil, Rows.uptoBulk, Rows.uptoBulkAll, ht]
      omega
    rcases DataW.trod_slice Tryd.underlying23 g3 with ⟨hcs, hy⟩ | ⟨a, len, cap, elems, rest, m, rfl, hcs, hy, hb, hlc, hm, hle, hel, _⟩
    · simp only [List.cons.injEq, and_true] at hcs
      refine ⟨.mk k t N [], none, 0, by rw [e0, e1, e2, hcs]; rfl, ⟨hk', hN'⟩, ⟨rfl, Nat.le_refl _, .inl rfl⟩, ?_⟩
      have : Rows.uptoBulk y3.1 = 1 := by rw [hy]; simp [Rows.uptoBulk]
      simp only [sizeR, sizeL, List.length_nil]
      omega
    · simp only [List.cons.injEq, and_true] at hcs
      have each : ∀ i, i < len → ∃ R : RC, (∀ j, j < 4 → w.cell? ((a.add (i * 4)).add j) = [.int .u8 R.r.k, .string R.r.t, .int .i64 R.r.n, .slice R.a R.r.l.length R.c][j]?) ∧ RcOk R.r ∧ RepRow w R.a R.r.l.length R.c R.r.l ∧ ∃ e, elems[i]? = some e ∧ sizeR R.r + 1 ≤ Rows.uptoBulk e.1 := fun i hi => by
        have h1 := hel i hi
        rw [List.getElem?_eq_getElem (by omega)] at h1
        obtain ⟨cs', h2, h3⟩ := Option.bind_eq_some_iff.1 h1
        rw [hC] at h2
        obtain ⟨_, _, h4⟩ := World.cells?_some h2
        obtain ⟨r', a', c', rfl, ho, hr, hbk⟩ := ih m (by omega) h3
        exact ⟨⟨r', a', c'⟩, h4, ho, hr, _, List.getElem?_eq_getElem (by omega), hbk⟩
      haveI : Inhabited RC := ⟨⟨spareR, none, 0⟩⟩
      obtain ⟨R, hR⟩ := choose_lt each
      have hsum : ∀ k, k ≤ len → k + sizeL ((List.range k).map fun i => (R i).r) ≤ Rows.uptoBulkAll ((elems.take k).map (·.1)) := by
        intro k
        induction k with
        | zero => intro _; simp [sizeL]
        | succ k ihk =>
          intro hk2
          have h1 := ihk (by omega)
          obtain ⟨e, he, h2⟩ := (hR k (by omega)).2.2.2
          obtain ⟨hkl, he'⟩ := List.getElem?_eq_some_iff.1 he
          rw [List.take_succ_eq_append_getElem hkl, he', List.map_append, List.range_succ, List.map_append, sizeL_append]
          have h3 : ∀ (A B : List (DataW H)), Rows.uptoBulkAll (A ++ B) = Rows.uptoBulkAll A + Rows.uptoBulkAll B := by
            intro A
            induction A with
            | nil => intro B; simp [Rows.uptoBulkAll]
            | cons d A ihA => intro B; simp only [List.cons_append, Rows.uptoBulkAll, ihA]; omega
          rw [h3]
          simp only [List.map_cons, List.map_nil, Rows.uptoBulkAll, sizeL]
          omega
      have hs := hsum len (Nat.le_refl _)
      rw [List.take_of_length_le (by omega)] at hs
      have hy3 : Rows.uptoBulk y3.1 = Rows.uptoBulkAll (elems.map (·.1)) + Rows.uptoBulkAll (rest.map (·.1)) + 1 := by rw [hy]; simp [Rows.uptoBulk]
      have hlr : ((List.range len).map fun i => (R i).r).length = len := by simp
      refine ⟨.mk k t N ((List.range len).map fun i => (R i).r), some a, cap, ?_, ⟨hk', hN'⟩, ?_, ?_⟩
      · simp only [Rep.k, Rep.t, Rep.n, Rep.l, hlr]
        rw [e0, e1, e2, hcs]
      · simp only [Rep.l, hlr]
        refine ⟨hlr, hlc, ?_⟩
        rcases Nat.eq_zero_or_pos len with h0 | h0
        · exact .inl h0
        · have hsp : ∃ b o, a = ⟨b, o, none⟩ := by
            obtain ⟨_, b, o, hx, _⟩ := argRow_of (w := w) (x := a) (len := 1) (cap := 1) (f := fun _ => .int .u8 (R 0).r.k) (Nat.le_refl _) (fun i hi => by
              have : i = 0 := by omega
              subst this
              have := (hR 0 h0).1 0 (by omega)
              rw [Go.Deep.add_add] at this
              simpa using this) |>.imp id (fun h => h.resolve_left (by omega))
            exact ⟨b, o, Option.some.inj hx⟩
          obtain ⟨b, o, rfl⟩ := hsp
          refine .inr ⟨b, o, rfl, RepsAt.of fun i hi => ?_⟩
          have hi' : i < len := by simpa using hi
          obtain ⟨h1, h2, h3, _⟩ := hR i hi'
          have g : ∀ j, j < 4 → w.cell? ⟨b, o + i * 4 + j, none⟩ = [.int .u8 (R i).r.k, .string (R i).r.t, .int .i64 (R i).r.n, .slice (R i).a (R i).r.l.length (R i).c][j]? := fun j hj => by
            have := h1 j hj
            rw [add_plain, add_plain] at this
            exact this
          simp only [List.getElem_map, List.getElem_range]
          exact RepAt.of ⟨g 0 (by omega), g 1 (by omega), g 2 (by omega)⟩ h2 (g 3 (by omega)) h3
      · simp only [sizeR, hlr]
        omega
set_option maxRecDepth 100000 in
/-- A reply by value that came in. -/
theorem reply_arg {rr : Reach} {b0 : Nat} {v : Value} {d : DataW H} {ps : List MemPlace} (hv : Value.okWide Tryd.prog w rr b0 25 v) (h : DataW.Trod enc Tryd.prog w base spare held 25 v d ps) :
    ∃ r : Rep, RepV w r v ∧ sizeR r + 1 ≤ Rows.uptoBulk d := by
  obtain ⟨cs, rfl, hsz⟩ := okWide_struct Tryd.underlying25 hv
  obtain ⟨fuel, hf⟩ := h
  obtain ⟨r, a, c, hcs, ho, hr, hb⟩ := open_reply fuel hf
  refine ⟨r, ⟨a, c, ?_, ho, hr⟩, hb⟩
  have : cs.toList = [.int .u8 r.k, .string r.t, .int .i64 r.n, .slice a r.l.length c] := hcs
  rw [show cs = #[.int .u8 r.k, .string r.t, .int .i64 r.n, .slice a r.l.length c] from Array.ext' this]
/-- A command. -/
theorem cmd_arg {a : Option Addr} {len cap : Nat} {d : DataW H} {ps : List MemPlace} (h : DataW.Trod enc Tryd.prog w base spare held 27 (.slice a len cap) d ps) :
    ∃ zs : List ByteArray, (zs.length = len ∧ ArgRow w a len cap (fun i => .string (zs.getD i ByteArray.empty))) ∧ totalT zs ≤ Rows.uptoBulk d := by
  obtain ⟨fuel, hf⟩ := h
  rcases open_slice1 Tryd.underlying27 (by kernel_rfl) hf with ⟨hcs, hd⟩ | ⟨x, l, c, m, n, V, D, Pl, hcs, hx, hl, hm, hmm, hd, hV⟩
  · simp [Value.cells] at hcs
    obtain ⟨rfl, rfl, rfl⟩ := hcs
    exact ⟨[], ⟨rfl, Nat.le_refl _, .inl rfl⟩, by simp [totalT]⟩
  · simp [Value.cells] at hcs
    obtain ⟨rfl, rfl, rfl⟩ := hcs
    have hle : len ≤ m := by rw [hmm]; split <;> omega
    have each : ∀ i, i < m → ∃ s : ByteArray, V i = .string s ∧ D i = .lit (.string s.data.toList) := fun i hi => by
      obtain ⟨s, hs, hd, _⟩ := DataW.trod_string Tryd.underlying9 (hV i hi).2
      exact ⟨s, by simpa using hs, (Prod.mk.inj hd).1⟩
    obtain ⟨S, hS⟩ := choose_lt each
    have hd1 : d = .slice ((List.range len).map D) ((List.range (m - len)).map fun j => D (len + j)) := (Prod.mk.inj hd).1
    rw [hd1]
    simp only [Rows.uptoBulk]
    refine ⟨(List.range len).map S, ⟨by simp, argRow_of hl fun i hi => ?_⟩, ?_⟩
    · rw [(hV i (by omega)).1, (hS i (by omega)).1]
      simp [List.getD, hi]
    · have := bulk_texts D S (List.range len) fun i hi => (hS i (by have := List.mem_range.1 hi; omega)).2
      omega
end
end Go.Proofs.YtpldbgdhflmjhaaDoor

/- The row of the law RespEncodes, and its card: for every input of at most 1048576 values and letters the Go function returns true and its arguments read as before, out of the walk respEncodes_walk. The library's variables that the row lists hold what the program's text lays (the card's tie, given). -/
namespace Go.Proofs.YtpldbgdhflmjhaaDoor.respEncodesRow
open Go.ChangeShapes Go.WideShapes Go.ChangeAt Go.RowKit
open Go.ChangeMaps (open_string shut_string)
set_option linter.unusedVariables false
set_option linter.unusedSimpArgs false
theorem own : ownKnob Tryd.prog.godebug = none := by kernel_rfl
theorem laidOut : laidOutB Tryd.prog = true := by kernel_rfl
theorem bulk {H : Type} {l : List (DataW H)} (hk : Rows.uptoSmall H l = true) : Rows.uptoBulkAll l ≤ 1048576 := of_decide_eq_true hk
theorem reads (os : Os) {H : Type} (enc : TypeId × Value → H) : ∃ places, DataW.whole enc Tryd.prog ((LayE.laidWorld os).forCall (fun _ _ => 0) ⟨#[], #[.agg #[.int .u8 0, .string ByteArray.empty, .int .i64 0, .slice none 0 0], .slice none 0 0], []⟩).memory Tryd.f3.params.toList Rows.respEncodesSpec.vars false (#[.agg #[.int .u8 0, .string ByteArray.empty, .int .i64 0, .slice none 0 0], .slice none 0 0] : Array Value).toList 8 = some ([.agg [.lit (.int .u8 0), .lit (.string []), .lit (.int .i64 0), .nil], .nil], [], places) :=
  ⟨[], by kernel_rfl⟩
set_option maxRecDepth 100000 in
theorem contract (H : Type) (enc : TypeId × Value → H) (W : World) (base : Nat) (args : Array Value) (ds gs : List (DataW H)) (before : List MemPlace)
    (hval0 : ∀ (j : Nat) t v, Tryd.f3.params[j]? = some t → args[j]? = some v → Value.okWide Tryd.prog W .any base t v)
    (hW : DataW.Whole enc Tryd.prog Tryd.f3.params.toList Rows.respEncodesSpec.vars false W args.toList ds gs before) (hk0 : Rows.uptoSmall H (ds ++ gs) = true)
    (hsz0 : (DataW.weightsEach Tryd.prog (Tryd.f3.params.toList ++ Rows.respEncodesSpec.plain.varTypes Tryd.prog) (ds ++ gs)).all (· ≤ reachBytes) = true) (hL : Tab W) :
    Calls Tryd.prog 3 args W fun e W' => ∃ v, e = .returned v ∧ Rows.respEncodesSpec.post enc Tryd.prog Tryd.f3 false true false false W args v W' := by
  have hsz := hsz0
  have hk := bulk hk0
  have hval : ∀ (j : Nat) t v, Tryd.f3.params[j]? = some t → args[j]? = some v → Value.okWide Tryd.prog W .any base t v := hval0
  have hW' := hW
  obtain ⟨p, q, hA0, hV, rfl, hfz, hnd⟩ := hW
  have hA : DataW.TrodAll enc Tryd.prog W 0 (fun _ => true) true Tryd.f3.params.toList args.toList ds p := hA0
  rw [Tryd.params3] at hA hval hsz
  obtain ⟨v0, vs0, d0, ds0, p0, q0, hargs, rfl, rfl, h0, r0⟩ := trodAll_cons hA
  obtain ⟨v1, vs1, d1, ds1, p1, q1, rfl, rfl, rfl, h1, r1⟩ := trodAll_cons r0
  obtain ⟨rfl, rfl, rfl⟩ := trodAll_nil r1
  obtain rfl : args = #[v0, v1] := by cases args; simp_all
  obtain ⟨rfl, rfl⟩ := trodVars_none hV
  have k0 := h0
  have lt0 : ∀ x ∈ p0, x.block < W.heap.size := by obtain ⟨m, hm⟩ := k0; exact DataW.trod_lt m _ _ _ hm
  obtain ⟨r0, w0, b0⟩ := reply_arg (hval 0 25 v0 rfl rfl) h0
  have k1 := h1
  have lt1 : ∀ x ∈ p1, x.block < W.heap.size := by obtain ⟨m, hm⟩ := k1; exact DataW.trod_lt m _ _ _ hm
  obtain ⟨a1, len1, cap1, rfl⟩ := okWide_slice Tryd.underlying27 (hval 1 27 v1 rfl rfl)
  obtain ⟨z1, w1, b1⟩ := cmd_arg h1
  simp only [List.cons_append, List.nil_append, List.append_nil, Rows.uptoBulkAll, Rows.uptoBulk] at hk
  clear hA0 hval0 hsz0 hsz
  refine (respEncodes_walk hL w0 a1 len1 cap1 z1 w1.1 w1.2 (by omega)).mono fun e W' ⟨he, bel⟩ => ?_
  subst he
  exact ⟨_, rfl, _, _, _, [], _, [], hW', trodAll_mk1 (shut_bool Tryd.underlying4 _), (trodAll_cons_mk (Below.trod laidOut (by kernel_rfl) (of_decide_eq_true (by kernel_rfl)) k0 bel lt0) (trodAll_cons_mk (Below.trod laidOut (by kernel_rfl) (of_decide_eq_true (by kernel_rfl)) k1 bel lt1) trodAll_mk0)), rfl, bel.frame _, fun h => by cases h⟩
set_option maxRecDepth 100000 in
theorem liftedUpto (os : Os) (started : os.Started) (H : Type) (enc : TypeId × Value → H) (F : Stop.Interp) :
    ReturnsInHanded {} Tryd.checked os 3 .any ((Rows.OpenSpec.upto Rows.respEncodesSpec).preRow enc Tryd.prog Tryd.f3 Rows.respEncodesUptoRow.domain false Rows.respEncodesUptoRow.laid) (((Rows.OpenSpec.upto Rows.respEncodesSpec).at F).post enc Tryd.prog Tryd.f3 false true false false) := by
  obtain ⟨places, hx⟩ := reads os enc
  refine returnsInHanded_of_row (C := Tryd.checked) (s := (Rows.OpenSpec.upto Rows.respEncodesSpec)) own started (by kernel_rfl) Tryd.func3
    (witness_row_at (enc := enc) (C := Tryd.checked) false (LayE.laidWorld os) #[.agg #[.int .u8 0, .string ByteArray.empty, .int .i64 0, .slice none 0 0], .slice none 0 0] rfl (by kernel_rfl) (by kernel_rfl) (by kernel_rfl)
      (OpenSpec.preRow_of_cond 8 hx (by kernel_rfl) (fun k hk => by cases hk; kernel_rfl) (by kernel_rfl) (LayE.laid_met os _))) ?_
  intro W base args ds gs before hval hW _ hcond hsz hL hS _
  exact contract H enc W base args ds gs before hval hW (hcond _ rfl) hsz (LayE.laid_of hL hS)
theorem saidUpto : Rows.RespEncodesUptoSaid :=
  OpenClaim.holds_of_cond 3 Tryd.f3 rfl rfl rfl rfl rfl rfl rfl ⟨rfl, rfl, rfl, rfl, rfl⟩ rfl rfl rfl rfl rfl (by kernel_rfl) Tryd.func3 (by kernel_rfl)
    (of_decide_eq_true (by kernel_rfl)) (by unfold Func.isWrapper; first | (rw [if_pos (by decide +kernel)]; kernel_rfl) | (rw [if_neg (by decide +kernel)]; exact ⟨rfl, rfl⟩))
    (fun os started H enc _ F => by rw [OpenClaim.pre_eq_preRow]; exact liftedUpto os started H enc F)
theorem plain (f : FuncId) (fn : Func) (hf : Tryd.pinned.checked.prog.funcNamed "stillroom/stillroomlaw11.RespEncodes" = some f) (hfn : Tryd.pinned.checked.prog.funcs[f]? = some fn) :
    true = Tryd.pinned.checked.prog.looks [] ∧ ∀ (j : Nat) t, fn.params[j]? = some t → Tryd.pinned.checked.prog.wantsStandIn t = false := by
  obtain rfl : f = 3 := Option.some.inj ((show Tryd.prog.funcNamed "stillroom/stillroomlaw11.RespEncodes" = some 3 by kernel_rfl).symm.trans hf) |>.symm
  obtain rfl : fn = Tryd.f3 := (Option.some.inj (Tryd.func3.symm.trans hfn)).symm
  refine ⟨by kernel_rfl, fun j t ht => ?_⟩
  rw [Tryd.params3] at ht
  have ht := Array.mem_of_getElem? ht
  have all : ∀ t ∈ (#[25, 27] : Array TypeId), Tryd.prog.wantsStandIn t = false := by
    intro t ht
    simp only [List.mem_toArray, List.mem_cons, List.not_mem_nil, or_false] at ht
    rcases ht with rfl | rfl <;> kernel_rfl
  exact all t ht
end Go.Proofs.YtpldbgdhflmjhaaDoor.respEncodesRow
namespace Go.Proofs.YtpldbgdhflmjhaaDoor
open Go.Proofs.YtpldbgdhflmjhaaDoor.respEncodesRow in
/-- The law's card. -/
theorem respEncodes_holds : Rows.RespEncodesUptoCardSaid :=
  Claim7.holds_tied_plain_at .later [] _ _ _ _ saidUpto (fun _ h => by cases h) (by kernel_rfl) (fun _ h => by cases h) respEncodesUpto_row_tie rfl ⟨rfl, rfl⟩ (by kernel_rfl) rfl plain (by kernel_rfl)
end Go.Proofs.YtpldbgdhflmjhaaDoor
