/- Strings of bytes. -/
import Derived.Test.YtcoepekoacpgnaaDoorBase
import Derived.Laws.BytesString
import Derived.Laws.AppendOwn
import Derived.WalkKit
namespace Go.Proofs.YtcoepekoacpgnaaDoor
set_option linter.unusedVariables false
set_option linter.unusedSimpArgs false
open Go.RowKit
/-- The string of these bytes. -/
def strOf (bs : List UInt8) : ByteArray := ⟨bs.toArray⟩
@[simp] theorem strOf_size (bs : List UInt8) : (strOf bs).size = bs.length := by simp [strOf, ByteArray.size]
@[simp] theorem strOf_data (bs : List UInt8) : (strOf bs).data.toList = bs := by simp [strOf]
theorem strOf_inj {a b : List UInt8} (h : strOf a = strOf b) : a = b := by
  have := congrArg (fun s : ByteArray => s.data.toList) h
  simpa using this
theorem strOf_toList (s : ByteArray) : strOf s.data.toList = s := by cases s; simp [strOf]
theorem fold_push (bs : List UInt8) : ∀ s : ByteArray, (bs.map fun c => (c.toNat : Int)).foldl (fun r n => r.push (UInt8.ofNat n.toNat)) s = ⟨s.data ++ bs.toArray⟩ := by
  induction bs with
  | nil => intro s; simp
  | cons c bs ih =>
    intro s
    simp only [List.map_cons, List.foldl_cons, ih]
    simp [ByteArray.push]
theorem run_string_row {P : Program} (w : World) (src dst e : TypeId) (hs : P.underlying src = some (.slice e)) (he : P.underlying e = some (.int .u8)) (hd : P.underlying dst = some .string)
    (b o n cap : Nat) (bs : List UInt8) (hn : bs.length = n) (hc : ∀ i (h : i < bs.length), w.cell? ⟨b, o + i, none⟩ = some (.int .u8 bs[i].toNat)) :
    (convert src dst (.slice (some ⟨b, o, none⟩) n cap)).run P w = .ok (.string (strOf bs)) w := by
  subst hn
  rw [run_convert_bytes_string w src dst e _ _ _ hs he hd, run_bytesToString (ns := bs.map fun c => (c.toNat : Int))]
  · rw [fold_push]; simp [strOf, ByteArray.empty, ByteArray.emptyWithCapacity]; rfl
  · have := run_loadCells_list (P := P) w ⟨b, o, none⟩ (bs.map u8v) (fun j v hv => by
      rw [List.getElem?_map] at hv
      cases hb : bs[j]? with
      | none => rw [hb] at hv; cases hv
      | some c =>
        rw [hb] at hv
        obtain ⟨hj, hcj⟩ := List.getElem?_eq_some_iff.1 hb
        rw [Addr.add_lit, hc j hj, hcj]
        simpa using hv)
    rw [List.length_map] at this
    rw [this, List.map_map]; rfl
theorem run_string_nil {P : Program} (w : World) (src dst e : TypeId) (hs : P.underlying src = some (.slice e)) (he : P.underlying e = some (.int .u8)) (hd : P.underlying dst = some .string) (n c : Nat) :
    (convert src dst (.slice none n c)).run P w = .ok (.string (strOf [])) w := by
  rw [run_convert_bytes_string w src dst e _ _ _ hs he hd]
  simp [Conv.bytesToString]
  rfl
/-- '[]byte(s)': a new row, its capacity open. -/
theorem run_bytes_string {P : Program} (w : World) (src dst e : TypeId) (hs : P.underlying src = some .string) (hd : P.underlying dst = some (.slice e)) (he : P.underlying e = some (.int .u8)) (s : ByteArray) (hsz : s.size ≤ 140737488351232) :
    ∃ cap cur w', (convert src dst (.string s)).run P w = .ok (.slice (some ⟨w.heap.size, 0, none⟩) s.size cap) w' ∧ RowAt w' w.heap.size e cur ∧ cur.size = cap ∧ s.size ≤ cap ∧ cap ≤ maxLen ∧
      cur.toList.take s.size = s.data.toList.map u8v ∧ Chg (fun _ => False) w w' := by
  obtain ⟨cap, hcap⟩ : ∃ cap, cap = (Question.appendCap s.size 0 e).cut (w.tape w.drawn (.appendCap s.size 0 e)) := ⟨_, rfl⟩
  have hge : s.size ≤ cap := by rw [hcap]; simp [Question.cut]
  have hle : cap ≤ maxLen := by rw [hcap]; exact grownCap_le_maxLen w s.size 0 e (by unfold maxLen; omega)
  obtain ⟨cur, hcur⟩ : ∃ cur, cur = s.data.map (fun b => Value.int .u8 b.toNat) ++ Array.replicate (cap - s.size) (Value.int .u8 0) := ⟨_, rfl⟩
  have hsize : cur.size = cap := by
    rw [hcur, Array.size_append, Array.size_map, Array.size_replicate]
    show s.size + (cap - s.size) = cap
    omega
  refine ⟨cap, cur, (w.drew.alloc (.cells cur e)).freeze ⟨w.heap.size, cap, none⟩ 1, ?_, ?_, hsize, hge, hle, ?_, ?_⟩
  · simp [convert, run_underlying hs, run_underlying hd, run_underlying he, Conv.stringToBytes, Question.forced, newRow, markStringish]
    rw [← hcap, ← hcur]
    have hsh : (w.drew.alloc (.cells cur e)).shape? w.heap.size = some (e, cap) := by
      simp only [World.shape?]
      rw [show w.heap.size = w.drew.heap.size from rfl, heap_new]
      simp [hsize]
    rw [hsh]
    simp [freeze, Sem.run]
  · have hh : ((w.drew.alloc (.cells cur e)).freeze ⟨w.heap.size, cap, none⟩ 1).heap[w.heap.size]? = some (.cells cur e (cap, cap + 1)) := by
      unfold World.freeze
      simp only [Nat.one_ne_zero, if_false, Array.getElem?_modify]
      rw [show w.heap.size = w.drew.heap.size from rfl, heap_new]
      simp
    exact ⟨_, fun i hi => by simp; omega, hh⟩
  · rw [hcur, Array.toList_append, Array.toList_map, List.take_left' (by rw [List.length_map, Array.length_toList]; rfl)]
  · refine ⟨rfl, rfl, rfl, ?_, fun k hk _ => ?_⟩
    · simp [World.freeze]
    · unfold World.freeze
      simp only [Nat.one_ne_zero, if_false, Array.getElem?_modify]
      rw [if_neg (by omega)]
      exact Below.heap_alloc w.drew _ k hk
end Go.Proofs.YtcoepekoacpgnaaDoor
