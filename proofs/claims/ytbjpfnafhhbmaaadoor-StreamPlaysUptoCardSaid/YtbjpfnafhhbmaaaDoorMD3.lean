/- Lemmas and walks for StreamPlays, part 3 of 5: the texts Shelf, Dec, Dec2, Dec3, Dec4, Dec5, Stm1, Stm2, Stm3, Stm4, Stm5, Stm6, Stm7, Stm8, Stm9, Stm10, Stm14, Stm15, Stm16. -/
import Derived.Shelf.Strconv.Itoa0
import Derived.Shelf.Strconv.Itoa1
import Derived.Shelf.LaysM
import Derived.Shelf.Strconv.Itoa2
import Derived.Shelf.Strconv.Itoa3
import Derived.Shelf.Strconv.Clone
import Derived.Shelf.Strconv.SyntaxError
import Derived.Shelf.LaysC
import Derived.Shelf.Strconv.ToError
import Derived.Shelf.Strconv.Lower
import Derived.Shelf.Strconv.ParseUint10Empty
import Derived.Shelf.Strconv.RangeError
import Derived.Shelf.Strconv.ToErrorRange
import Derived.Shelf.Strconv.ParseUintEmpty
import Derived.Ground.MpProg
import Derived.Shelf.Pu.ParseUintPublic10
import Derived.Shelf.Pu.ErrVarParseUint
import Derived.Shelf.Strings.Search1
import Derived.Shelf.Strings.Search2
import Derived.Shelf.Strings.Cut
import Derived.Shelf.Strings.Shaped
import Derived.Test.YtbjpfnafhhbmaaaDoorProg
import Derived.Test.YtbjpfnafhhbmaaaDoorMD1
import Derived.Lib.AppendIntMem
import Derived.Lib.ItoaWalk
import Derived.Deep.Cut
import Derived.Lib.AtoiErrMem
import Derived.Laws.ResultCell
import Derived.Test.YtbjpfnafhhbmaaaDoorMD2
import Derived.Sort.CutIn
import Derived.Laws.StructEq
/-
  DERIVED: THE SHELF's CONTRACTS AT THIS DUMP, IN PLAIN WORDS (tools/lay-plain.mjs out of 'TrydShelf.lean', which tools/lay-shelf.mjs wrote): THE SAME DECLARATIONS UNDER THE SAME NAMES: 'import', 'namespace', 'open', 'def', 'theorem' AND NOTHING ELSE: no command of the shelf's: FOR A HAND-IN. Each laying: the table of numbers ('.._ren') and one theorem, a field a fact of the dump's own or the kernel's comparison; each contract: ONE APPLICATION.
-/
namespace Go.Proofs
open Go.Shelf
def Tryd.lays129_ren : Go.Shelf.Ren := ⟨fun | 129 => 93 | n => n, fun | 53 => 22 | 3 => 3 | 4 => 4 | 46 => 117 | 5 => 5 | 9 => 9 | n => n, fun | n => n⟩
theorem Tryd.lays129 : Go.Proofs.Lays.n129 Tryd.prog Tryd.lays129_ren := {
  mixed := by kernel_rfl
  f129 := Tryd.func93.trans (congrArg some (by kernel_rfl))
  t3 := Tryd.underlying3
  a3 := Tryd.isAgg3
  z3 := Tryd.sizeOf3
  v3 := Tryd.zeroValue3
  t4 := Tryd.underlying4
  a4 := Tryd.isAgg4
  z4 := Tryd.sizeOf4
  v4 := Tryd.zeroValue4
  t5 := Tryd.underlying5
  a5 := Tryd.isAgg5
  z5 := Tryd.sizeOf5
  v5 := Tryd.zeroValue5
  t9 := Tryd.underlying9
  a9 := Tryd.isAgg9
  z9 := Tryd.sizeOf9
  v9 := Tryd.zeroValue9
  t46 := Tryd.underlying117
  a46 := Tryd.isAgg117
  z46 := Tryd.sizeOf117
  v46 := Tryd.zeroValue117
  t53 := Tryd.underlying22
  a53 := Tryd.isAgg22
  z53 := Tryd.sizeOf22
  v53 := Tryd.zeroValue22 }
/-- bits.Len64: "Len64 returns the minimum number of bits required to represent x; the result is 0 for x == 0.": IT RETURNS 'Lib.bitLen x'; the world is as it was. ('h0', 'h1': x is a uint64.) (LAID: no walk: one application.) -/
theorem Tryd.bits_Len64 (x : Int) (w : World) (h0 : 0 ≤ x) (h1 : x ≤ 18446744073709551615) :
    Calls Tryd.prog 93 #[.int .u64 x] w fun e w' => e = .returned (.int .i64 (Lib.bitLen x.toNat)) ∧ w' = w := Any.bits_Len64 Tryd.lays129 x w h0 h1
def Tryd.lays317_ren : Go.Shelf.Ren := ⟨fun | 317 => 92 | n => n, fun | 3 => 3 | 46 => 117 | n => n, fun | n => n⟩
theorem Tryd.lays317 : Go.Proofs.Lays.n317 Tryd.prog Tryd.lays317_ren := {
  mixed := by kernel_rfl
  f317 := Tryd.func92.trans (congrArg some (by kernel_rfl))
  t3 := Tryd.underlying3
  a3 := Tryd.isAgg3
  z3 := Tryd.sizeOf3
  v3 := Tryd.zeroValue3
  t46 := Tryd.underlying117
  a46 := Tryd.isAgg117
  z46 := Tryd.sizeOf117
  v46 := Tryd.zeroValue117 }
open Go.Lib in
/-- internal/strconv.log10Pow2: "log10Pow2(x) returns ⌊log₁₀ 2**x⌋ = ⌊x * log₁₀ 2⌋.": '(x * 78913) >> 18', at an x up to 64 (a length in bits). The world is as it was. (LAID: no walk: one application.) -/
theorem Tryd.internal_strconv_log10Pow2 (x : Nat) (h : x ≤ 64) (w : World) :
    Calls Tryd.prog 92 #[.int .i64 x] w fun e w' => e = .returned (.int .i64 (Lib.l10 x)) ∧ w' = w := Any.internal_strconv_log10Pow2 Tryd.lays317 x h w
def Tryd.lays318_ren : Go.Shelf.Ren := ⟨fun | 318 => 94 | n => n, fun | 3 => 3 | 4 => 4 | n => n, fun | n => n⟩
theorem Tryd.lays318 : Go.Proofs.Lays.n318 Tryd.prog Tryd.lays318_ren := {
  mixed := by kernel_rfl
  f318 := Tryd.func94.trans (congrArg some (by kernel_rfl))
  t3 := Tryd.underlying3
  a3 := Tryd.isAgg3
  z3 := Tryd.sizeOf3
  v3 := Tryd.zeroValue3
  t4 := Tryd.underlying4
  a4 := Tryd.isAgg4
  z4 := Tryd.sizeOf4
  v4 := Tryd.zeroValue4 }
open Go.Lib in
/-- internal/strconv.bool2: "bool2 converts b to an integer: 1 for true, 0 for false." The world is as it was. (LAID: no walk: one application.) -/
theorem Tryd.internal_strconv_bool2_int (b : Bool) (w : World) :
    Calls Tryd.prog 94 #[.bool b] w fun e w' => e = .returned (.int .i64 (if b then 1 else 0)) ∧ w' = w := Any.internal_strconv_bool2_int Tryd.lays318 b w
def Tryd.lays283_ren : Go.Shelf.Ren := ⟨fun | 283 => 76 | n => n, fun | 3 => 3 | 9 => 9 | 4 => 4 | n => n, fun | n => n⟩
theorem Tryd.lays283 : Go.Proofs.Lays.n283 Tryd.prog Tryd.lays283_ren := {
  mixed := by kernel_rfl
  f283 := Tryd.func76.trans (congrArg some (by kernel_rfl))
  t3 := Tryd.underlying3
  a3 := Tryd.isAgg3
  z3 := Tryd.sizeOf3
  v3 := Tryd.zeroValue3
  t4 := Tryd.underlying4
  a4 := Tryd.isAgg4
  z4 := Tryd.sizeOf4
  v4 := Tryd.zeroValue4
  t9 := Tryd.underlying9
  a9 := Tryd.isAgg9
  z9 := Tryd.sizeOf9
  v9 := Tryd.zeroValue9 }
open Go.Lib in
/-- internal/strconv.small: "small returns the string for an i with 0 <= i < nSmalls.": i's decimal numeral. The world is as it was. (LAID: no walk: one application.) -/
theorem Tryd.internal_strconv_small (i : Nat) (h : i < 100) (w : World) :
    Calls Tryd.prog 76 #[.int .i64 i] w fun e w' => e = .returned (.string ⟨(Lib.decDigits i).toArray⟩) ∧ w' = w := Any.internal_strconv_small Tryd.lays283 i h w
def Tryd.laysM284_ren : Go.Shelf.Ren := ⟨fun | 284 => 77 | 129 => 93 | 317 => 92 | 318 => 94 | n => n, fun | 53 => 22 | 3 => 3 | 212 => 128 | 0 => 0 | 4 => 4 | 46 => 117 | 5 => 5 | 9 => 9 | n => n, fun | 17 => 1 | n => n⟩
theorem Tryd.laysM284 : Go.Proofs.LaysM.n284 Tryd.prog Tryd.laysM284_ren := {
  mixed := by kernel_rfl
  f129 := Tryd.func93.trans (congrArg some (by kernel_rfl))
  f284 := Tryd.func77.trans (congrArg some (by kernel_rfl))
  f317 := Tryd.func92.trans (congrArg some (by kernel_rfl))
  f318 := Tryd.func94.trans (congrArg some (by kernel_rfl))
  t0 := Tryd.underlying0
  a0 := Tryd.isAgg0
  z0 := Tryd.sizeOf0
  v0 := Tryd.zeroValue0
  t3 := Tryd.underlying3
  a3 := Tryd.isAgg3
  z3 := Tryd.sizeOf3
  v3 := Tryd.zeroValue3
  t4 := Tryd.underlying4
  a4 := Tryd.isAgg4
  z4 := Tryd.sizeOf4
  v4 := Tryd.zeroValue4
  t5 := Tryd.underlying5
  a5 := Tryd.isAgg5
  z5 := Tryd.sizeOf5
  v5 := Tryd.zeroValue5
  t9 := Tryd.underlying9
  a9 := Tryd.isAgg9
  z9 := Tryd.sizeOf9
  v9 := Tryd.zeroValue9
  t46 := Tryd.underlying117
  a46 := Tryd.isAgg117
  z46 := Tryd.sizeOf117
  v46 := Tryd.zeroValue117
  t53 := Tryd.underlying22
  a53 := Tryd.isAgg22
  z53 := Tryd.sizeOf22
  v53 := Tryd.zeroValue22
  t212 := Tryd.underlying128
  a212 := Tryd.isAgg128
  z212 := Tryd.sizeOf128
  v212 := Tryd.zeroValue128
  g17 := by kernel_rfl
  i0 := by kernel_rfl
  i3 := by kernel_rfl
  i4 := by kernel_rfl
  i5 := by kernel_rfl
  i9 := by kernel_rfl
  i46 := by kernel_rfl
  i53 := by kernel_rfl
  i212 := by kernel_rfl
  m17 := by kernel_rfl }
open Go.Lib in
/-- internal/strconv.numDigits, at a d that is not 0: THE NUMBER OF d's DECIMAL DIGITS. The world is as it was. (LAID: no walk: one application.) -/
theorem Tryd.internal_strconv_numDigits (u : Nat) (h1 : 1 ≤ u) (h2 : u < 18446744073709551616) (w : World) (htab : Lib.TabIs Tryd.prog w "internal/strconv.uint64pow10" .u64 Lib.pow10Tab) :
    Calls Tryd.prog 77 #[.int .u64 u] w fun e w' => e = .returned (.int .i64 (Lib.nDigits u)) ∧ w' = w := Any.internal_strconv_numDigits Tryd.laysM284 u h1 h2 w htab
def Tryd.lays285_ren : Go.Shelf.Ren := ⟨fun | 285 => 78 | n => n, fun | 37 => 87 | 53 => 22 | 3 => 3 | 4 => 4 | 51 => 129 | 9 => 9 | 5 => 5 | 0 => 0 | n => n, fun | n => n⟩
theorem Tryd.lays285 : Go.Proofs.Lays.n285 Tryd.prog Tryd.lays285_ren := {
  mixed := by kernel_rfl
  f285 := Tryd.func78.trans (congrArg some (by kernel_rfl))
  t0 := Tryd.underlying0
  a0 := Tryd.isAgg0
  z0 := Tryd.sizeOf0
  v0 := Tryd.zeroValue0
  t3 := Tryd.underlying3
  a3 := Tryd.isAgg3
  z3 := Tryd.sizeOf3
  v3 := Tryd.zeroValue3
  t4 := Tryd.underlying4
  a4 := Tryd.isAgg4
  z4 := Tryd.sizeOf4
  v4 := Tryd.zeroValue4
  t5 := Tryd.underlying5
  a5 := Tryd.isAgg5
  z5 := Tryd.sizeOf5
  v5 := Tryd.zeroValue5
  t9 := Tryd.underlying9
  a9 := Tryd.isAgg9
  z9 := Tryd.sizeOf9
  v9 := Tryd.zeroValue9
  t37 := Tryd.underlying87
  a37 := Tryd.isAgg87
  z37 := Tryd.sizeOf87
  v37 := Tryd.zeroValue87
  t51 := Tryd.underlying129
  a51 := Tryd.isAgg129
  z51 := Tryd.sizeOf129
  v51 := Tryd.zeroValue129
  t53 := Tryd.underlying22
  a53 := Tryd.isAgg22
  z53 := Tryd.sizeOf22
  v53 := Tryd.zeroValue22 }
open Go.RowKit Go.Sort Go.Lib in
/-- internal/strconv.formatBase10: "formatBase10 formats the decimal representation of u into a. The caller is responsible for ensuring that a is big enough to hold u. If a is too big, leading zeros will be filled in as needed.": THE ROW HOLDS u's DIGITS ('FmtInv .. 0 ..': every place t holds 'dg u (len - 1 - t)'); all else is as it was but for the count of draws. (LAID: no walk: one application.) -/
theorem Tryd.internal_strconv_formatBase10 (blk off cap : Nat) (u : Nat) (d : Array UInt8) (w : World) (hH : Holds (fun (b : UInt8) => Value.int .u8 (b.toNat : Int)) w blk off d) (hu : u < 10 ^ d.size) (hu64 : u < 18446744073709551616) (hsz : d.size < 4611686018427387904) :
    Calls Tryd.prog 78 #[.slice (some ⟨blk, off, none⟩) d.size cap, .int .u64 u] w fun e w' =>
      e = .returned (.tuple #[]) ∧ ∃ (n v' : Nat) (dk : Array UInt8), w' = (putRow (fun (b : UInt8) => Value.int .u8 (b.toNat : Int)) w blk off dk).drewN n ∧ FmtInv d.size u 0 v' dk := Any.internal_strconv_formatBase10 Tryd.lays285 blk off cap u d w hH hu hu64 hsz
def Tryd.laysM246_ren : Go.Shelf.Ren := ⟨fun | 246 => 105 | 283 => 76 | 284 => 77 | 285 => 78 | 286 => 79 | 129 => 93 | 317 => 92 | 318 => 94 | 319 => 95 | 320 => 96 | 337 => 102 | 338 => 103 | n => n, fun | 2 => 2 | 3 => 3 | 9 => 9 | 4 => 4 | 171 => 112 | 0 => 0 | 53 => 22 | 37 => 87 | 5 => 5 | 173 => 115 | 212 => 128 | 51 => 129 | 20 => 20 | 213 => 130 | 46 => 117 | 232 => 143 | 233 => 144 | n => n, fun | 17 => 1 | 18 => 4 | 19 => 5 | n => n⟩
theorem Tryd.laysM246 : Go.Proofs.LaysM.n246 Tryd.prog Tryd.laysM246_ren := {
  mixed := by kernel_rfl
  f129 := Tryd.func93.trans (congrArg some (by kernel_rfl))
  f246 := Tryd.func105.trans (congrArg some (by kernel_rfl))
  f283 := Tryd.func76.trans (congrArg some (by kernel_rfl))
  f284 := Tryd.func77.trans (congrArg some (by kernel_rfl))
  f285 := Tryd.func78.trans (congrArg some (by kernel_rfl))
  f286 := Tryd.func79.trans (congrArg some (by kernel_rfl))
  f317 := Tryd.func92.trans (congrArg some (by kernel_rfl))
  f318 := Tryd.func94.trans (congrArg some (by kernel_rfl))
  f319 := Tryd.func95.trans (congrArg some (by kernel_rfl))
  f320 := Tryd.func96.trans (congrArg some (by kernel_rfl))
  f337 := Tryd.func102.trans (congrArg some (by kernel_rfl))
  f338 := Tryd.func103.trans (congrArg some (by kernel_rfl))
  t0 := Tryd.underlying0
  a0 := Tryd.isAgg0
  z0 := Tryd.sizeOf0
  v0 := Tryd.zeroValue0
  t2 := Tryd.underlying2
  a2 := Tryd.isAgg2
  z2 := Tryd.sizeOf2
  v2 := Tryd.zeroValue2
  t3 := Tryd.underlying3
  a3 := Tryd.isAgg3
  z3 := Tryd.sizeOf3
  v3 := Tryd.zeroValue3
  t4 := Tryd.underlying4
  a4 := Tryd.isAgg4
  z4 := Tryd.sizeOf4
  v4 := Tryd.zeroValue4
  t5 := Tryd.underlying5
  a5 := Tryd.isAgg5
  z5 := Tryd.sizeOf5
  v5 := Tryd.zeroValue5
  t9 := Tryd.underlying9
  a9 := Tryd.isAgg9
  z9 := Tryd.sizeOf9
  v9 := Tryd.zeroValue9
  t20 := Tryd.underlying20
  a20 := Tryd.isAgg20
  z20 := Tryd.sizeOf20
  v20 := Tryd.zeroValue20
  t37 := Tryd.underlying87
  a37 := Tryd.isAgg87
  z37 := Tryd.sizeOf87
  v37 := Tryd.zeroValue87
  t46 := Tryd.underlying117
  a46 := Tryd.isAgg117
  z46 := Tryd.sizeOf117
  v46 := Tryd.zeroValue117
  t51 := Tryd.underlying129
  a51 := Tryd.isAgg129
  z51 := Tryd.sizeOf129
  v51 := Tryd.zeroValue129
  t53 := Tryd.underlying22
  a53 := Tryd.isAgg22
  z53 := Tryd.sizeOf22
  v53 := Tryd.zeroValue22
  t171 := Tryd.underlying112
  a171 := Tryd.isAgg112
  z171 := Tryd.sizeOf112
  v171 := Tryd.zeroValue112
  t173 := Tryd.underlying115
  a173 := Tryd.isAgg115
  z173 := Tryd.sizeOf115
  v173 := Tryd.zeroValue115
  t212 := Tryd.underlying128
  a212 := Tryd.isAgg128
  z212 := Tryd.sizeOf128
  v212 := Tryd.zeroValue128
  t213 := Tryd.underlying130
  a213 := Tryd.isAgg130
  z213 := Tryd.sizeOf130
  t232 := Tryd.underlying143
  a232 := Tryd.isAgg143
  z232 := Tryd.sizeOf143
  v232 := Tryd.zeroValue143
  t233 := Tryd.underlying144
  a233 := Tryd.isAgg144
  z233 := Tryd.sizeOf144
  v233 := Tryd.zeroValue144
  g17 := by kernel_rfl
  g18 := by kernel_rfl
  g19 := by kernel_rfl
  i0 := by kernel_rfl
  i2 := by kernel_rfl
  i3 := by kernel_rfl
  i4 := by kernel_rfl
  i5 := by kernel_rfl
  i9 := by kernel_rfl
  i20 := by kernel_rfl
  i37 := by kernel_rfl
  i46 := by kernel_rfl
  i51 := by kernel_rfl
  i53 := by kernel_rfl
  i171 := by kernel_rfl
  i173 := by kernel_rfl
  i212 := by kernel_rfl
  i232 := by kernel_rfl
  i233 := by kernel_rfl
  m17 := by kernel_rfl
  m18 := by kernel_rfl
  m19 := by kernel_rfl }
open Go.RowKit Go.Sort Go.Lib in
/-- internal/strconv.FormatInt: "FormatInt returns the string representation of i in the given base": AT BASE 10: i's decimal numeral, for every int64. The world behind the call: the world before it, new blocks behind the heap, draws. (LAID: no walk: one application.) -/
theorem Tryd.internal_strconv_FormatInt_10 (n : Int) (h0 : -9223372036854775808 ≤ n) (h1 : n ≤ 9223372036854775807) (w : World) (htab : Lib.TabIs Tryd.prog w "internal/strconv.uint64pow10" .u64 Lib.pow10Tab) :
    Calls Tryd.prog 105 #[.int .i64 n, .int .i64 10] w fun e w' => e = .returned (.string ⟨(Lib.itoa n).toArray⟩) ∧ ∃ k os, w' = grow (w.drewN k) os := Any.internal_strconv_FormatInt_10 Tryd.laysM246 n h0 h1 w htab
def Tryd.lays246_ren : Go.Shelf.Ren := ⟨fun | 246 => 105 | 283 => 76 | 284 => 77 | 285 => 78 | 286 => 79 | 129 => 93 | 317 => 92 | 318 => 94 | 319 => 95 | 320 => 96 | 337 => 102 | 338 => 103 | n => n, fun | 2 => 2 | 3 => 3 | 9 => 9 | 4 => 4 | 171 => 112 | 0 => 0 | 53 => 22 | 37 => 87 | 5 => 5 | 173 => 115 | 212 => 128 | 51 => 129 | 20 => 20 | 213 => 130 | 46 => 117 | 232 => 143 | 233 => 144 | n => n, fun | 17 => 1 | 18 => 4 | 19 => 5 | n => n⟩
theorem Tryd.lays246 : Go.Proofs.Lays.n246 Tryd.prog Tryd.lays246_ren := {
  mixed := by kernel_rfl
  f129 := Tryd.func93.trans (congrArg some (by kernel_rfl))
  f246 := Tryd.func105.trans (congrArg some (by kernel_rfl))
  f283 := Tryd.func76.trans (congrArg some (by kernel_rfl))
  f284 := Tryd.func77.trans (congrArg some (by kernel_rfl))
  f285 := Tryd.func78.trans (congrArg some (by kernel_rfl))
  f286 := Tryd.func79.trans (congrArg some (by kernel_rfl))
  f317 := Tryd.func92.trans (congrArg some (by kernel_rfl))
  f318 := Tryd.func94.trans (congrArg some (by kernel_rfl))
  f319 := Tryd.func95.trans (congrArg some (by kernel_rfl))
  f320 := Tryd.func96.trans (congrArg some (by kernel_rfl))
  f337 := Tryd.func102.trans (congrArg some (by kernel_rfl))
  f338 := Tryd.func103.trans (congrArg some (by kernel_rfl))
  t0 := Tryd.underlying0
  a0 := Tryd.isAgg0
  z0 := Tryd.sizeOf0
  v0 := Tryd.zeroValue0
  t2 := Tryd.underlying2
  a2 := Tryd.isAgg2
  z2 := Tryd.sizeOf2
  v2 := Tryd.zeroValue2
  t3 := Tryd.underlying3
  a3 := Tryd.isAgg3
  z3 := Tryd.sizeOf3
  v3 := Tryd.zeroValue3
  t4 := Tryd.underlying4
  a4 := Tryd.isAgg4
  z4 := Tryd.sizeOf4
  v4 := Tryd.zeroValue4
  t5 := Tryd.underlying5
  a5 := Tryd.isAgg5
  z5 := Tryd.sizeOf5
  v5 := Tryd.zeroValue5
  t9 := Tryd.underlying9
  a9 := Tryd.isAgg9
  z9 := Tryd.sizeOf9
  v9 := Tryd.zeroValue9
  t20 := Tryd.underlying20
  a20 := Tryd.isAgg20
  z20 := Tryd.sizeOf20
  v20 := Tryd.zeroValue20
  t37 := Tryd.underlying87
  a37 := Tryd.isAgg87
  z37 := Tryd.sizeOf87
  v37 := Tryd.zeroValue87
  t46 := Tryd.underlying117
  a46 := Tryd.isAgg117
  z46 := Tryd.sizeOf117
  v46 := Tryd.zeroValue117
  t51 := Tryd.underlying129
  a51 := Tryd.isAgg129
  z51 := Tryd.sizeOf129
  v51 := Tryd.zeroValue129
  t53 := Tryd.underlying22
  a53 := Tryd.isAgg22
  z53 := Tryd.sizeOf22
  v53 := Tryd.zeroValue22
  t171 := Tryd.underlying112
  a171 := Tryd.isAgg112
  z171 := Tryd.sizeOf112
  v171 := Tryd.zeroValue112
  t173 := Tryd.underlying115
  a173 := Tryd.isAgg115
  z173 := Tryd.sizeOf115
  v173 := Tryd.zeroValue115
  t212 := Tryd.underlying128
  a212 := Tryd.isAgg128
  z212 := Tryd.sizeOf128
  v212 := Tryd.zeroValue128
  t213 := Tryd.underlying130
  a213 := Tryd.isAgg130
  z213 := Tryd.sizeOf130
  t232 := Tryd.underlying143
  a232 := Tryd.isAgg143
  z232 := Tryd.sizeOf143
  v232 := Tryd.zeroValue143
  t233 := Tryd.underlying144
  a233 := Tryd.isAgg144
  z233 := Tryd.sizeOf144
  v233 := Tryd.zeroValue144
  g17 := by kernel_rfl
  g18 := by kernel_rfl
  g19 := by kernel_rfl }
open Go.RowKit Go.Sort Go.Lib in
/-- THE ROAD WITHOUT THE TABLE: 0 <= i < 100: two constants are read, nothing is laid: no premise on the world, and the world is as it was. (LAID: no walk: one application.) -/
theorem Tryd.internal_strconv_FormatInt_10_small (i : Nat) (hi : i < 100) (w : World) :
    Calls Tryd.prog 105 #[.int .i64 i, .int .i64 10] w fun e w' => e = .returned (.string ⟨(Lib.decDigits i).toArray⟩) ∧ w' = w := Any.internal_strconv_FormatInt_10_small Tryd.lays246 i hi w
def Tryd.laysM243_ren : Go.Shelf.Ren := ⟨fun | 243 => 104 | 246 => 105 | 283 => 76 | 284 => 77 | 285 => 78 | 286 => 79 | 129 => 93 | 317 => 92 | 318 => 94 | 319 => 95 | 320 => 96 | 337 => 102 | 338 => 103 | n => n, fun | 3 => 3 | 9 => 9 | 2 => 2 | 4 => 4 | 171 => 112 | 0 => 0 | 53 => 22 | 37 => 87 | 5 => 5 | 173 => 115 | 212 => 128 | 51 => 129 | 20 => 20 | 213 => 130 | 46 => 117 | 232 => 143 | 233 => 144 | n => n, fun | 17 => 1 | 18 => 4 | 19 => 5 | n => n⟩
theorem Tryd.laysM243 : Go.Proofs.LaysM.n243 Tryd.prog Tryd.laysM243_ren := {
  mixed := by kernel_rfl
  f129 := Tryd.func93.trans (congrArg some (by kernel_rfl))
  f243 := Tryd.func104.trans (congrArg some (by kernel_rfl))
  f246 := Tryd.func105.trans (congrArg some (by kernel_rfl))
  f283 := Tryd.func76.trans (congrArg some (by kernel_rfl))
  f284 := Tryd.func77.trans (congrArg some (by kernel_rfl))
  f285 := Tryd.func78.trans (congrArg some (by kernel_rfl))
  f286 := Tryd.func79.trans (congrArg some (by kernel_rfl))
  f317 := Tryd.func92.trans (congrArg some (by kernel_rfl))
  f318 := Tryd.func94.trans (congrArg some (by kernel_rfl))
  f319 := Tryd.func95.trans (congrArg some (by kernel_rfl))
  f320 := Tryd.func96.trans (congrArg some (by kernel_rfl))
  f337 := Tryd.func102.trans (congrArg some (by kernel_rfl))
  f338 := Tryd.func103.trans (congrArg some (by kernel_rfl))
  t0 := Tryd.underlying0
  a0 := Tryd.isAgg0
  z0 := Tryd.sizeOf0
  v0 := Tryd.zeroValue0
  t2 := Tryd.underlying2
  a2 := Tryd.isAgg2
  z2 := Tryd.sizeOf2
  v2 := Tryd.zeroValue2
  t3 := Tryd.underlying3
  a3 := Tryd.isAgg3
  z3 := Tryd.sizeOf3
  v3 := Tryd.zeroValue3
  t4 := Tryd.underlying4
  a4 := Tryd.isAgg4
  z4 := Tryd.sizeOf4
  v4 := Tryd.zeroValue4
  t5 := Tryd.underlying5
  a5 := Tryd.isAgg5
  z5 := Tryd.sizeOf5
  v5 := Tryd.zeroValue5
  t9 := Tryd.underlying9
  a9 := Tryd.isAgg9
  z9 := Tryd.sizeOf9
  v9 := Tryd.zeroValue9
  t20 := Tryd.underlying20
  a20 := Tryd.isAgg20
  z20 := Tryd.sizeOf20
  v20 := Tryd.zeroValue20
  t37 := Tryd.underlying87
  a37 := Tryd.isAgg87
  z37 := Tryd.sizeOf87
  v37 := Tryd.zeroValue87
  t46 := Tryd.underlying117
  a46 := Tryd.isAgg117
  z46 := Tryd.sizeOf117
  v46 := Tryd.zeroValue117
  t51 := Tryd.underlying129
  a51 := Tryd.isAgg129
  z51 := Tryd.sizeOf129
  v51 := Tryd.zeroValue129
  t53 := Tryd.underlying22
  a53 := Tryd.isAgg22
  z53 := Tryd.sizeOf22
  v53 := Tryd.zeroValue22
  t171 := Tryd.underlying112
  a171 := Tryd.isAgg112
  z171 := Tryd.sizeOf112
  v171 := Tryd.zeroValue112
  t173 := Tryd.underlying115
  a173 := Tryd.isAgg115
  z173 := Tryd.sizeOf115
  v173 := Tryd.zeroValue115
  t212 := Tryd.underlying128
  a212 := Tryd.isAgg128
  z212 := Tryd.sizeOf128
  v212 := Tryd.zeroValue128
  t213 := Tryd.underlying130
  a213 := Tryd.isAgg130
  z213 := Tryd.sizeOf130
  t232 := Tryd.underlying143
  a232 := Tryd.isAgg143
  z232 := Tryd.sizeOf143
  v232 := Tryd.zeroValue143
  t233 := Tryd.underlying144
  a233 := Tryd.isAgg144
  z233 := Tryd.sizeOf144
  v233 := Tryd.zeroValue144
  g17 := by kernel_rfl
  g18 := by kernel_rfl
  g19 := by kernel_rfl
  i0 := by kernel_rfl
  i2 := by kernel_rfl
  i3 := by kernel_rfl
  i4 := by kernel_rfl
  i5 := by kernel_rfl
  i9 := by kernel_rfl
  i20 := by kernel_rfl
  i37 := by kernel_rfl
  i46 := by kernel_rfl
  i51 := by kernel_rfl
  i53 := by kernel_rfl
  i171 := by kernel_rfl
  i173 := by kernel_rfl
  i212 := by kernel_rfl
  i232 := by kernel_rfl
  i233 := by kernel_rfl
  m17 := by kernel_rfl
  m18 := by kernel_rfl
  m19 := by kernel_rfl }
open Go.RowKit Go.Sort Go.Lib in
/-- internal/strconv.Itoa: "Itoa is equivalent to FormatInt(int64(i), 10).": i's decimal numeral, for every int. (LAID: no walk: one application.) -/
theorem Tryd.internal_strconv_Itoa (n : Int) (h0 : -9223372036854775808 ≤ n) (h1 : n ≤ 9223372036854775807) (w : World) (htab : Lib.TabIs Tryd.prog w "internal/strconv.uint64pow10" .u64 Lib.pow10Tab) :
    Calls Tryd.prog 104 #[.int .i64 n] w fun e w' => e = .returned (.string ⟨(Lib.itoa n).toArray⟩) ∧ ∃ k os, w' = grow (w.drewN k) os := Any.internal_strconv_Itoa Tryd.laysM243 n h0 h1 w htab
def Tryd.lays243_ren : Go.Shelf.Ren := ⟨fun | 243 => 104 | 246 => 105 | 283 => 76 | 284 => 77 | 285 => 78 | 286 => 79 | 129 => 93 | 317 => 92 | 318 => 94 | 319 => 95 | 320 => 96 | 337 => 102 | 338 => 103 | n => n, fun | 3 => 3 | 9 => 9 | 2 => 2 | 4 => 4 | 171 => 112 | 0 => 0 | 53 => 22 | 37 => 87 | 5 => 5 | 173 => 115 | 212 => 128 | 51 => 129 | 20 => 20 | 213 => 130 | 46 => 117 | 232 => 143 | 233 => 144 | n => n, fun | 17 => 1 | 18 => 4 | 19 => 5 | n => n⟩
theorem Tryd.lays243 : Go.Proofs.Lays.n243 Tryd.prog Tryd.lays243_ren := {
  mixed := by kernel_rfl
  f129 := Tryd.func93.trans (congrArg some (by kernel_rfl))
  f243 := Tryd.func104.trans (congrArg some (by kernel_rfl))
  f246 := Tryd.func105.trans (congrArg some (by kernel_rfl))
  f283 := Tryd.func76.trans (congrArg some (by kernel_rfl))
  f284 := Tryd.func77.trans (congrArg some (by kernel_rfl))
  f285 := Tryd.func78.trans (congrArg some (by kernel_rfl))
  f286 := Tryd.func79.trans (congrArg some (by kernel_rfl))
  f317 := Tryd.func92.trans (congrArg some (by kernel_rfl))
  f318 := Tryd.func94.trans (congrArg some (by kernel_rfl))
  f319 := Tryd.func95.trans (congrArg some (by kernel_rfl))
  f320 := Tryd.func96.trans (congrArg some (by kernel_rfl))
  f337 := Tryd.func102.trans (congrArg some (by kernel_rfl))
  f338 := Tryd.func103.trans (congrArg some (by kernel_rfl))
  t0 := Tryd.underlying0
  a0 := Tryd.isAgg0
  z0 := Tryd.sizeOf0
  v0 := Tryd.zeroValue0
  t2 := Tryd.underlying2
  a2 := Tryd.isAgg2
  z2 := Tryd.sizeOf2
  v2 := Tryd.zeroValue2
  t3 := Tryd.underlying3
  a3 := Tryd.isAgg3
  z3 := Tryd.sizeOf3
  v3 := Tryd.zeroValue3
  t4 := Tryd.underlying4
  a4 := Tryd.isAgg4
  z4 := Tryd.sizeOf4
  v4 := Tryd.zeroValue4
  t5 := Tryd.underlying5
  a5 := Tryd.isAgg5
  z5 := Tryd.sizeOf5
  v5 := Tryd.zeroValue5
  t9 := Tryd.underlying9
  a9 := Tryd.isAgg9
  z9 := Tryd.sizeOf9
  v9 := Tryd.zeroValue9
  t20 := Tryd.underlying20
  a20 := Tryd.isAgg20
  z20 := Tryd.sizeOf20
  v20 := Tryd.zeroValue20
  t37 := Tryd.underlying87
  a37 := Tryd.isAgg87
  z37 := Tryd.sizeOf87
  v37 := Tryd.zeroValue87
  t46 := Tryd.underlying117
  a46 := Tryd.isAgg117
  z46 := Tryd.sizeOf117
  v46 := Tryd.zeroValue117
  t51 := Tryd.underlying129
  a51 := Tryd.isAgg129
  z51 := Tryd.sizeOf129
  v51 := Tryd.zeroValue129
  t53 := Tryd.underlying22
  a53 := Tryd.isAgg22
  z53 := Tryd.sizeOf22
  v53 := Tryd.zeroValue22
  t171 := Tryd.underlying112
  a171 := Tryd.isAgg112
  z171 := Tryd.sizeOf112
  v171 := Tryd.zeroValue112
  t173 := Tryd.underlying115
  a173 := Tryd.isAgg115
  z173 := Tryd.sizeOf115
  v173 := Tryd.zeroValue115
  t212 := Tryd.underlying128
  a212 := Tryd.isAgg128
  z212 := Tryd.sizeOf128
  v212 := Tryd.zeroValue128
  t213 := Tryd.underlying130
  a213 := Tryd.isAgg130
  z213 := Tryd.sizeOf130
  t232 := Tryd.underlying143
  a232 := Tryd.isAgg143
  z232 := Tryd.sizeOf143
  v232 := Tryd.zeroValue143
  t233 := Tryd.underlying144
  a233 := Tryd.isAgg144
  z233 := Tryd.sizeOf144
  v233 := Tryd.zeroValue144
  g17 := by kernel_rfl
  g18 := by kernel_rfl
  g19 := by kernel_rfl }
open Go.RowKit Go.Sort Go.Lib in
/-- THE ROAD WITHOUT THE TABLE: 0 <= i < 100. (LAID: no walk: one application.) -/
theorem Tryd.internal_strconv_Itoa_small (i : Nat) (hi : i < 100) (w : World) :
    Calls Tryd.prog 104 #[.int .i64 i] w fun e w' => e = .returned (.string ⟨(Lib.decDigits i).toArray⟩) ∧ w' = w := Any.internal_strconv_Itoa_small Tryd.lays243 i hi w
def Tryd.laysM171_ren : Go.Shelf.Ren := ⟨fun | 171 => 101 | 243 => 104 | 246 => 105 | 283 => 76 | 284 => 77 | 285 => 78 | 286 => 79 | 129 => 93 | 317 => 92 | 318 => 94 | 319 => 95 | 320 => 96 | 337 => 102 | 338 => 103 | n => n, fun | 3 => 3 | 9 => 9 | 2 => 2 | 4 => 4 | 171 => 112 | 0 => 0 | 53 => 22 | 37 => 87 | 5 => 5 | 173 => 115 | 212 => 128 | 51 => 129 | 20 => 20 | 213 => 130 | 46 => 117 | 232 => 143 | 233 => 144 | n => n, fun | 17 => 1 | 18 => 4 | 19 => 5 | n => n⟩
theorem Tryd.laysM171 : Go.Proofs.LaysM.n171 Tryd.prog Tryd.laysM171_ren := {
  mixed := by kernel_rfl
  f129 := Tryd.func93.trans (congrArg some (by kernel_rfl))
  f171 := Tryd.func101.trans (congrArg some (by kernel_rfl))
  f243 := Tryd.func104.trans (congrArg some (by kernel_rfl))
  f246 := Tryd.func105.trans (congrArg some (by kernel_rfl))
  f283 := Tryd.func76.trans (congrArg some (by kernel_rfl))
  f284 := Tryd.func77.trans (congrArg some (by kernel_rfl))
  f285 := Tryd.func78.trans (congrArg some (by kernel_rfl))
  f286 := Tryd.func79.trans (congrArg some (by kernel_rfl))
  f317 := Tryd.func92.trans (congrArg some (by kernel_rfl))
  f318 := Tryd.func94.trans (congrArg some (by kernel_rfl))
  f319 := Tryd.func95.trans (congrArg some (by kernel_rfl))
  f320 := Tryd.func96.trans (congrArg some (by kernel_rfl))
  f337 := Tryd.func102.trans (congrArg some (by kernel_rfl))
  f338 := Tryd.func103.trans (congrArg some (by kernel_rfl))
  t0 := Tryd.underlying0
  a0 := Tryd.isAgg0
  z0 := Tryd.sizeOf0
  v0 := Tryd.zeroValue0
  t2 := Tryd.underlying2
  a2 := Tryd.isAgg2
  z2 := Tryd.sizeOf2
  v2 := Tryd.zeroValue2
  t3 := Tryd.underlying3
  a3 := Tryd.isAgg3
  z3 := Tryd.sizeOf3
  v3 := Tryd.zeroValue3
  t4 := Tryd.underlying4
  a4 := Tryd.isAgg4
  z4 := Tryd.sizeOf4
  v4 := Tryd.zeroValue4
  t5 := Tryd.underlying5
  a5 := Tryd.isAgg5
  z5 := Tryd.sizeOf5
  v5 := Tryd.zeroValue5
  t9 := Tryd.underlying9
  a9 := Tryd.isAgg9
  z9 := Tryd.sizeOf9
  v9 := Tryd.zeroValue9
  t20 := Tryd.underlying20
  a20 := Tryd.isAgg20
  z20 := Tryd.sizeOf20
  v20 := Tryd.zeroValue20
  t37 := Tryd.underlying87
  a37 := Tryd.isAgg87
  z37 := Tryd.sizeOf87
  v37 := Tryd.zeroValue87
  t46 := Tryd.underlying117
  a46 := Tryd.isAgg117
  z46 := Tryd.sizeOf117
  v46 := Tryd.zeroValue117
  t51 := Tryd.underlying129
  a51 := Tryd.isAgg129
  z51 := Tryd.sizeOf129
  v51 := Tryd.zeroValue129
  t53 := Tryd.underlying22
  a53 := Tryd.isAgg22
  z53 := Tryd.sizeOf22
  v53 := Tryd.zeroValue22
  t171 := Tryd.underlying112
  a171 := Tryd.isAgg112
  z171 := Tryd.sizeOf112
  v171 := Tryd.zeroValue112
  t173 := Tryd.underlying115
  a173 := Tryd.isAgg115
  z173 := Tryd.sizeOf115
  v173 := Tryd.zeroValue115
  t212 := Tryd.underlying128
  a212 := Tryd.isAgg128
  z212 := Tryd.sizeOf128
  v212 := Tryd.zeroValue128
  t213 := Tryd.underlying130
  a213 := Tryd.isAgg130
  z213 := Tryd.sizeOf130
  t232 := Tryd.underlying143
  a232 := Tryd.isAgg143
  z232 := Tryd.sizeOf143
  v232 := Tryd.zeroValue143
  t233 := Tryd.underlying144
  a233 := Tryd.isAgg144
  z233 := Tryd.sizeOf144
  v233 := Tryd.zeroValue144
  g17 := by kernel_rfl
  g18 := by kernel_rfl
  g19 := by kernel_rfl
  i0 := by kernel_rfl
  i2 := by kernel_rfl
  i3 := by kernel_rfl
  i4 := by kernel_rfl
  i5 := by kernel_rfl
  i9 := by kernel_rfl
  i20 := by kernel_rfl
  i37 := by kernel_rfl
  i46 := by kernel_rfl
  i51 := by kernel_rfl
  i53 := by kernel_rfl
  i171 := by kernel_rfl
  i173 := by kernel_rfl
  i212 := by kernel_rfl
  i232 := by kernel_rfl
  i233 := by kernel_rfl
  m17 := by kernel_rfl
  m18 := by kernel_rfl
  m19 := by kernel_rfl }
open Go.RowKit Go.Sort Go.Lib in
/-- strconv.Itoa: "Itoa is equivalent to FormatInt(int64(i), 10).": i's DECIMAL NUMERAL ('Lib.itoa': a '-' where i is negative, then the digits), FOR EVERY int. The world behind the call: the world before it, new blocks behind the heap (the library's 'var a [24]byte'), draws. (LAID: no walk: one application.) -/
theorem Tryd.strconv_Itoa (n : Int) (h0 : -9223372036854775808 ≤ n) (h1 : n ≤ 9223372036854775807) (w : World) (htab : Lib.TabIs Tryd.prog w "internal/strconv.uint64pow10" .u64 Lib.pow10Tab) :
    Calls Tryd.prog 101 #[.int .i64 n] w fun e w' => e = .returned (.string ⟨(Lib.itoa n).toArray⟩) ∧ ∃ k os, w' = grow (w.drewN k) os := Any.strconv_Itoa Tryd.laysM171 n h0 h1 w htab
def Tryd.lays171_ren : Go.Shelf.Ren := ⟨fun | 171 => 101 | 243 => 104 | 246 => 105 | 283 => 76 | 284 => 77 | 285 => 78 | 286 => 79 | 129 => 93 | 317 => 92 | 318 => 94 | 319 => 95 | 320 => 96 | 337 => 102 | 338 => 103 | n => n, fun | 3 => 3 | 9 => 9 | 2 => 2 | 4 => 4 | 171 => 112 | 0 => 0 | 53 => 22 | 37 => 87 | 5 => 5 | 173 => 115 | 212 => 128 | 51 => 129 | 20 => 20 | 213 => 130 | 46 => 117 | 232 => 143 | 233 => 144 | n => n, fun | 17 => 1 | 18 => 4 | 19 => 5 | n => n⟩
theorem Tryd.lays171 : Go.Proofs.Lays.n171 Tryd.prog Tryd.lays171_ren := {
  mixed := by kernel_rfl
  f129 := Tryd.func93.trans (congrArg some (by kernel_rfl))
  f171 := Tryd.func101.trans (congrArg some (by kernel_rfl))
  f243 := Tryd.func104.trans (congrArg some (by kernel_rfl))
  f246 := Tryd.func105.trans (congrArg some (by kernel_rfl))
  f283 := Tryd.func76.trans (congrArg some (by kernel_rfl))
  f284 := Tryd.func77.trans (congrArg some (by kernel_rfl))
  f285 := Tryd.func78.trans (congrArg some (by kernel_rfl))
  f286 := Tryd.func79.trans (congrArg some (by kernel_rfl))
  f317 := Tryd.func92.trans (congrArg some (by kernel_rfl))
  f318 := Tryd.func94.trans (congrArg some (by kernel_rfl))
  f319 := Tryd.func95.trans (congrArg some (by kernel_rfl))
  f320 := Tryd.func96.trans (congrArg some (by kernel_rfl))
  f337 := Tryd.func102.trans (congrArg some (by kernel_rfl))
  f338 := Tryd.func103.trans (congrArg some (by kernel_rfl))
  t0 := Tryd.underlying0
  a0 := Tryd.isAgg0
  z0 := Tryd.sizeOf0
  v0 := Tryd.zeroValue0
  t2 := Tryd.underlying2
  a2 := Tryd.isAgg2
  z2 := Tryd.sizeOf2
  v2 := Tryd.zeroValue2
  t3 := Tryd.underlying3
  a3 := Tryd.isAgg3
  z3 := Tryd.sizeOf3
  v3 := Tryd.zeroValue3
  t4 := Tryd.underlying4
  a4 := Tryd.isAgg4
  z4 := Tryd.sizeOf4
  v4 := Tryd.zeroValue4
  t5 := Tryd.underlying5
  a5 := Tryd.isAgg5
  z5 := Tryd.sizeOf5
  v5 := Tryd.zeroValue5
  t9 := Tryd.underlying9
  a9 := Tryd.isAgg9
  z9 := Tryd.sizeOf9
  v9 := Tryd.zeroValue9
  t20 := Tryd.underlying20
  a20 := Tryd.isAgg20
  z20 := Tryd.sizeOf20
  v20 := Tryd.zeroValue20
  t37 := Tryd.underlying87
  a37 := Tryd.isAgg87
  z37 := Tryd.sizeOf87
  v37 := Tryd.zeroValue87
  t46 := Tryd.underlying117
  a46 := Tryd.isAgg117
  z46 := Tryd.sizeOf117
  v46 := Tryd.zeroValue117
  t51 := Tryd.underlying129
  a51 := Tryd.isAgg129
  z51 := Tryd.sizeOf129
  v51 := Tryd.zeroValue129
  t53 := Tryd.underlying22
  a53 := Tryd.isAgg22
  z53 := Tryd.sizeOf22
  v53 := Tryd.zeroValue22
  t171 := Tryd.underlying112
  a171 := Tryd.isAgg112
  z171 := Tryd.sizeOf112
  v171 := Tryd.zeroValue112
  t173 := Tryd.underlying115
  a173 := Tryd.isAgg115
  z173 := Tryd.sizeOf115
  v173 := Tryd.zeroValue115
  t212 := Tryd.underlying128
  a212 := Tryd.isAgg128
  z212 := Tryd.sizeOf128
  v212 := Tryd.zeroValue128
  t213 := Tryd.underlying130
  a213 := Tryd.isAgg130
  z213 := Tryd.sizeOf130
  t232 := Tryd.underlying143
  a232 := Tryd.isAgg143
  z232 := Tryd.sizeOf143
  v232 := Tryd.zeroValue143
  t233 := Tryd.underlying144
  a233 := Tryd.isAgg144
  z233 := Tryd.sizeOf144
  v233 := Tryd.zeroValue144
  g17 := by kernel_rfl
  g18 := by kernel_rfl
  g19 := by kernel_rfl }
open Go.RowKit Go.Sort Go.Lib in
/-- THE ROAD WITHOUT THE TABLE: 0 <= i < 100: NO PREMISE ON THE WORLD, AND THE WORLD IS AS IT WAS: a row that keeps its argument in that range need list no table ('laid = []'). (LAID: no walk: one application.) -/
theorem Tryd.strconv_Itoa_small (i : Nat) (hi : i < 100) (w : World) :
    Calls Tryd.prog 101 #[.int .i64 i] w fun e w' => e = .returned (.string ⟨(Lib.decDigits i).toArray⟩) ∧ w' = w := Any.strconv_Itoa_small Tryd.lays171 i hi w
def Tryd.laysM316_ren : Go.Shelf.Ren := ⟨fun | 316 => 99 | n => n, fun | 9 => 9 | 3 => 3 | 4 => 4 | 37 => 87 | 0 => 0 | 127 => 139 | 5 => 5 | n => n, fun | n => n⟩
theorem Tryd.laysM316 : Go.Proofs.LaysM.n316 Tryd.prog Tryd.laysM316_ren := {
  mixed := by kernel_rfl
  f316 := Tryd.func99.trans (congrArg some (by kernel_rfl))
  t0 := Tryd.underlying0
  a0 := Tryd.isAgg0
  z0 := Tryd.sizeOf0
  v0 := Tryd.zeroValue0
  t3 := Tryd.underlying3
  a3 := Tryd.isAgg3
  z3 := Tryd.sizeOf3
  v3 := Tryd.zeroValue3
  t4 := Tryd.underlying4
  a4 := Tryd.isAgg4
  z4 := Tryd.sizeOf4
  v4 := Tryd.zeroValue4
  t9 := Tryd.underlying9
  a9 := Tryd.isAgg9
  z9 := Tryd.sizeOf9
  v9 := Tryd.zeroValue9
  t37 := Tryd.underlying87
  a37 := Tryd.isAgg87
  z37 := Tryd.sizeOf87
  v37 := Tryd.zeroValue87
  t127 := Tryd.underlying139
  a127 := Tryd.isAgg139
  z127 := Tryd.sizeOf139
  v127 := Tryd.zeroValue139
  t5 := Tryd.underlying5
  a5 := Tryd.isAgg5
  z5 := Tryd.sizeOf5
  v5 := Tryd.zeroValue5
  i0 := by kernel_rfl
  i3 := by kernel_rfl
  i4 := by kernel_rfl
  i5 := by kernel_rfl
  i9 := by kernel_rfl
  i37 := by kernel_rfl
  i127 := by kernel_rfl }
open Go.RowKit in
/-- internal/stringslite.Clone (what strings.Clone calls): "Clone returns a fresh copy of s.": THE SAME BYTES. Of what was there nothing has turned (a new row is laid, and frozen, where s is not empty). (LAID: no walk: one application.) -/
theorem Tryd.stringslite_Clone (s : ByteArray) (w : World) (hlim : s.size ≤ 281474976710656) :
    Calls Tryd.prog 99 #[.string s] w fun e w' => e = .returned (.string s) ∧ Below w.heap.size w w' := Any.stringslite_Clone Tryd.laysM316 s w hlim
def Tryd.laysM279_ren : Go.Shelf.Ren := ⟨fun | 279 => 88 | 316 => 99 | n => n, fun | 9 => 9 | 168 => 124 | 75 => 84 | 210 => 136 | 3 => 3 | 4 => 4 | 37 => 87 | 0 => 0 | 127 => 139 | 80 => 146 | 5 => 5 | n => n, fun | 15 => 2 | n => n⟩
theorem Tryd.laysM279 : Go.Proofs.LaysM.n279 Tryd.prog Tryd.laysM279_ren := {
  mixed := by kernel_rfl
  f279 := Tryd.func88.trans (congrArg some (by kernel_rfl))
  f316 := Tryd.func99.trans (congrArg some (by kernel_rfl))
  t0 := Tryd.underlying0
  a0 := Tryd.isAgg0
  z0 := Tryd.sizeOf0
  v0 := Tryd.zeroValue0
  t3 := Tryd.underlying3
  a3 := Tryd.isAgg3
  z3 := Tryd.sizeOf3
  v3 := Tryd.zeroValue3
  t4 := Tryd.underlying4
  a4 := Tryd.isAgg4
  z4 := Tryd.sizeOf4
  v4 := Tryd.zeroValue4
  t9 := Tryd.underlying9
  a9 := Tryd.isAgg9
  z9 := Tryd.sizeOf9
  v9 := Tryd.zeroValue9
  t37 := Tryd.underlying87
  a37 := Tryd.isAgg87
  z37 := Tryd.sizeOf87
  v37 := Tryd.zeroValue87
  t75 := Tryd.underlying84
  a75 := Tryd.isAgg84
  z75 := Tryd.sizeOf84
  v75 := Tryd.zeroValue84
  t127 := Tryd.underlying139
  a127 := Tryd.isAgg139
  z127 := Tryd.sizeOf139
  v127 := Tryd.zeroValue139
  t168 := Tryd.underlying124
  a168 := Tryd.isAgg124
  z168 := Tryd.sizeOf124
  v168 := Tryd.zeroValue124
  t210 := Tryd.underlying136
  a210 := Tryd.isAgg136
  z210 := Tryd.sizeOf136
  v210 := Tryd.zeroValue136
  g15 := by kernel_rfl
  t5 := Tryd.underlying5
  a5 := Tryd.isAgg5
  z5 := Tryd.sizeOf5
  v5 := Tryd.zeroValue5
  t80 := Tryd.underlying146
  a80 := Tryd.isAgg146
  z80 := Tryd.sizeOf146
  v80 := Tryd.zeroValue146
  i0 := by kernel_rfl
  i3 := by kernel_rfl
  i4 := by kernel_rfl
  i5 := by kernel_rfl
  i9 := by kernel_rfl
  i37 := by kernel_rfl
  i75 := by kernel_rfl
  i80 := by kernel_rfl
  i127 := by kernel_rfl
  i168 := by kernel_rfl
  i210 := by kernel_rfl
  m15 := by kernel_rfl }
open Go.RowKit in
/-- strconv.syntaxError: '&NumError{fn, stringslite.Clone(str), ErrSyntax}': A POINTER TO A NEW BLOCK that holds fn, str's bytes, and what the variable ErrSyntax holds. Of what was there nothing has turned. (LAID: no walk: one application.) -/
theorem Tryd.strconv_syntaxError (fn s : ByteArray) (ev : Value) (w : World) (hlim : s.size ≤ 281474976710656) (hv : w.cell? ⟨2, 0, none⟩ = some ev) (hev : ev = .nilIface ∨ ∃ te pe, ev = .iface te pe) :
    Calls Tryd.prog 88 #[.string fn, .string s] w fun e w' => ∃ N, e = .returned (.pointer (some ⟨N, 0, none⟩)) ∧ w.heap.size ≤ N ∧ w'.heap[N]? = some (.cells #[.string fn, .string s, ev] 136 (0, 0)) ∧ Below w.heap.size w w' := Any.strconv_syntaxError Tryd.laysM279 fn s ev w hlim hv hev
def Tryd.laysC245_ren : Go.Shelf.Ren := ⟨fun | 245 => 75 | 279 => 88 | 280 => 89 | 281 => 90 | 282 => 91 | 316 => 99 | 171 => 101 | 205 => 100 | 243 => 104 | 246 => 105 | 283 => 76 | 284 => 77 | 285 => 78 | 286 => 79 | 129 => 93 | 317 => 92 | 318 => 94 | 319 => 95 | 320 => 96 | 337 => 102 | 338 => 103 | n => n, fun | 9 => 9 | 3 => 3 | 75 => 84 | 167 => 121 | 4 => 4 | 168 => 124 | 210 => 136 | 37 => 87 | 0 => 0 | 127 => 139 | 145 => 142 | 143 => 140 | 2 => 2 | 171 => 112 | 53 => 22 | 5 => 5 | 173 => 115 | 212 => 128 | 51 => 129 | 20 => 20 | 213 => 130 | 46 => 117 | 232 => 143 | 233 => 144 | 80 => 146 | n => n, fun | 15 => 2 | 16 => 3 | 17 => 1 | 18 => 4 | 19 => 5 | n => n⟩
theorem Tryd.laysC245 : Go.Proofs.LaysC.n245 Tryd.prog Tryd.laysC245_ren := {
  mixed := by kernel_rfl
  f129 := Tryd.func93.trans (congrArg some (by kernel_rfl))
  f171 := Tryd.func101.trans (congrArg some (by kernel_rfl))
  f205 := Tryd.func100.trans (congrArg some (by kernel_rfl))
  f243 := Tryd.func104.trans (congrArg some (by kernel_rfl))
  f245 := Tryd.func75.trans (congrArg some (by kernel_rfl))
  f246 := Tryd.func105.trans (congrArg some (by kernel_rfl))
  f279 := Tryd.func88.trans (congrArg some (by kernel_rfl))
  f280 := Tryd.func89.trans (congrArg some (by kernel_rfl))
  f281 := Tryd.func90.trans (congrArg some (by kernel_rfl))
  f282 := Tryd.func91.trans (congrArg some (by kernel_rfl))
  f283 := Tryd.func76.trans (congrArg some (by kernel_rfl))
  f284 := Tryd.func77.trans (congrArg some (by kernel_rfl))
  f285 := Tryd.func78.trans (congrArg some (by kernel_rfl))
  f286 := Tryd.func79.trans (congrArg some (by kernel_rfl))
  f316 := Tryd.func99.trans (congrArg some (by kernel_rfl))
  f317 := Tryd.func92.trans (congrArg some (by kernel_rfl))
  f318 := Tryd.func94.trans (congrArg some (by kernel_rfl))
  f319 := Tryd.func95.trans (congrArg some (by kernel_rfl))
  f320 := Tryd.func96.trans (congrArg some (by kernel_rfl))
  f337 := Tryd.func102.trans (congrArg some (by kernel_rfl))
  f338 := Tryd.func103.trans (congrArg some (by kernel_rfl))
  t0 := Tryd.underlying0
  a0 := Tryd.isAgg0
  z0 := Tryd.sizeOf0
  v0 := Tryd.zeroValue0
  t2 := Tryd.underlying2
  a2 := Tryd.isAgg2
  z2 := Tryd.sizeOf2
  v2 := Tryd.zeroValue2
  t3 := Tryd.underlying3
  a3 := Tryd.isAgg3
  z3 := Tryd.sizeOf3
  v3 := Tryd.zeroValue3
  t4 := Tryd.underlying4
  a4 := Tryd.isAgg4
  z4 := Tryd.sizeOf4
  v4 := Tryd.zeroValue4
  t5 := Tryd.underlying5
  a5 := Tryd.isAgg5
  z5 := Tryd.sizeOf5
  v5 := Tryd.zeroValue5
  t9 := Tryd.underlying9
  a9 := Tryd.isAgg9
  z9 := Tryd.sizeOf9
  v9 := Tryd.zeroValue9
  t20 := Tryd.underlying20
  a20 := Tryd.isAgg20
  z20 := Tryd.sizeOf20
  v20 := Tryd.zeroValue20
  t37 := Tryd.underlying87
  a37 := Tryd.isAgg87
  z37 := Tryd.sizeOf87
  v37 := Tryd.zeroValue87
  t46 := Tryd.underlying117
  a46 := Tryd.isAgg117
  z46 := Tryd.sizeOf117
  v46 := Tryd.zeroValue117
  t51 := Tryd.underlying129
  a51 := Tryd.isAgg129
  z51 := Tryd.sizeOf129
  v51 := Tryd.zeroValue129
  t53 := Tryd.underlying22
  a53 := Tryd.isAgg22
  z53 := Tryd.sizeOf22
  v53 := Tryd.zeroValue22
  t75 := Tryd.underlying84
  a75 := Tryd.isAgg84
  z75 := Tryd.sizeOf84
  v75 := Tryd.zeroValue84
  t127 := Tryd.underlying139
  a127 := Tryd.isAgg139
  z127 := Tryd.sizeOf139
  v127 := Tryd.zeroValue139
  t143 := Tryd.underlying140
  a143 := Tryd.isAgg140
  z143 := Tryd.sizeOf140
  v143 := Tryd.zeroValue140
  t145 := Tryd.underlying142
  a145 := Tryd.isAgg142
  z145 := Tryd.sizeOf142
  v145 := Tryd.zeroValue142
  t167 := Tryd.underlying121
  a167 := Tryd.isAgg121
  z167 := Tryd.sizeOf121
  v167 := Tryd.zeroValue121
  t168 := Tryd.underlying124
  a168 := Tryd.isAgg124
  z168 := Tryd.sizeOf124
  v168 := Tryd.zeroValue124
  t171 := Tryd.underlying112
  a171 := Tryd.isAgg112
  z171 := Tryd.sizeOf112
  v171 := Tryd.zeroValue112
  t173 := Tryd.underlying115
  a173 := Tryd.isAgg115
  z173 := Tryd.sizeOf115
  v173 := Tryd.zeroValue115
  t210 := Tryd.underlying136
  a210 := Tryd.isAgg136
  z210 := Tryd.sizeOf136
  v210 := Tryd.zeroValue136
  t212 := Tryd.underlying128
  a212 := Tryd.isAgg128
  z212 := Tryd.sizeOf128
  v212 := Tryd.zeroValue128
  t213 := Tryd.underlying130
  a213 := Tryd.isAgg130
  z213 := Tryd.sizeOf130
  t232 := Tryd.underlying143
  a232 := Tryd.isAgg143
  z232 := Tryd.sizeOf143
  v232 := Tryd.zeroValue143
  t233 := Tryd.underlying144
  a233 := Tryd.isAgg144
  z233 := Tryd.sizeOf144
  v233 := Tryd.zeroValue144
  g15 := by kernel_rfl
  g16 := by kernel_rfl
  g17 := by kernel_rfl
  g18 := by kernel_rfl
  g19 := by kernel_rfl
  t80 := Tryd.underlying146
  a80 := Tryd.isAgg146
  z80 := Tryd.sizeOf146
  v80 := Tryd.zeroValue146
  i0 := by kernel_rfl
  i2 := by kernel_rfl
  i3 := by kernel_rfl
  i4 := by kernel_rfl
  i5 := by kernel_rfl
  i9 := by kernel_rfl
  i20 := by kernel_rfl
  i37 := by kernel_rfl
  i46 := by kernel_rfl
  i51 := by kernel_rfl
  i53 := by kernel_rfl
  i75 := by kernel_rfl
  i80 := by kernel_rfl
  i127 := by kernel_rfl
  i143 := by kernel_rfl
  i145 := by kernel_rfl
  i167 := by kernel_rfl
  i168 := by kernel_rfl
  i171 := by kernel_rfl
  i173 := by kernel_rfl
  i210 := by kernel_rfl
  i212 := by kernel_rfl
  i232 := by kernel_rfl
  i233 := by kernel_rfl
  m15 := by kernel_rfl
  m16 := by kernel_rfl
  m17 := by kernel_rfl
  m18 := by kernel_rfl
  m19 := by kernel_rfl
  c0 := by kernel_rfl
  c2 := by kernel_rfl
  c3 := by kernel_rfl
  c4 := by kernel_rfl
  c5 := by kernel_rfl
  c9 := by kernel_rfl
  c20 := by kernel_rfl
  c37 := by kernel_rfl
  c46 := by kernel_rfl
  c51 := by kernel_rfl
  c53 := by kernel_rfl
  c75 := by kernel_rfl
  c80 := by kernel_rfl
  c127 := by kernel_rfl
  c143 := by kernel_rfl
  c145 := by kernel_rfl
  c167 := by kernel_rfl
  c168 := by kernel_rfl
  c171 := by kernel_rfl
  c173 := by kernel_rfl
  c210 := by kernel_rfl
  c212 := by kernel_rfl
  c213 := by kernel_rfl
  c232 := by kernel_rfl
  c233 := by kernel_rfl }
open Go.RowKit in
/-- strconv.toError, at the inner package's ErrSyntax: 'syntaxError(fn, s)' as an error: A *NumError IN A NEW BLOCK. (LAID: no walk: one application.) -/
theorem Tryd.strconv_toError_syntax (fn s : ByteArray) (base bits : Int) (ev : Value) (w : World) (hlim : s.size ≤ 281474976710656) (hv : w.cell? ⟨2, 0, none⟩ = some ev) (hev : ev = .nilIface ∨ ∃ te pe, ev = .iface te pe) :
    Calls Tryd.prog 75 #[.string fn, .string s, .int .i64 base, .int .i64 bits, .iface 121 (.int .i64 2)] w fun e w' => ∃ N, e = .returned (.iface 124 (.pointer (some ⟨N, 0, none⟩))) ∧ w.heap.size ≤ N ∧ w'.heap[N]? = some (.cells #[.string fn, .string s, ev] 136 (0, 0)) ∧ Below w.heap.size w w' := Any.strconv_toError_syntax Tryd.laysC245 fn s base bits ev w hlim hv hev
def Tryd.lays321_ren : Go.Shelf.Ren := ⟨fun | 321 => 86 | n => n, fun | 5 => 5 | n => n, fun | n => n⟩
theorem Tryd.lays321 : Go.Proofs.Lays.n321 Tryd.prog Tryd.lays321_ren := {
  mixed := by kernel_rfl
  f321 := Tryd.func86.trans (congrArg some (by kernel_rfl))
  t5 := Tryd.underlying5
  a5 := Tryd.isAgg5
  z5 := Tryd.sizeOf5
  v5 := Tryd.zeroValue5 }
open Go.RowKit in
/-- internal/strconv.lower: 'c | ('x' - 'X')': the bit 32 set. The world is as it was. (LAID: no walk: one application.) -/
theorem Tryd.internal_strconv_lower (c : Int) (w : World) :
    Calls Tryd.prog 86 #[.int .u8 c] w fun e w' => e = .returned (.int .u8 (bits .or .u8 c 32)) ∧ w' = w := Any.internal_strconv_lower Tryd.lays321 c w
def Tryd.lays287_ren : Go.Shelf.Ren := ⟨fun | 287 => 74 | 321 => 86 | 322 => 87 | n => n, fun | 9 => 9 | 3 => 3 | 53 => 22 | 75 => 84 | 4 => 4 | 167 => 121 | 5 => 5 | 46 => 117 | 37 => 87 | 0 => 0 | 21 => 21 | 80 => 146 | n => n, fun | n => n⟩
theorem Tryd.lays287 : Go.Proofs.Lays.n287 Tryd.prog Tryd.lays287_ren := {
  mixed := by kernel_rfl
  f287 := Tryd.func74.trans (congrArg some (by kernel_rfl))
  f321 := Tryd.func86.trans (congrArg some (by kernel_rfl))
  f322 := Tryd.func87.trans (congrArg some (by kernel_rfl))
  t0 := Tryd.underlying0
  a0 := Tryd.isAgg0
  z0 := Tryd.sizeOf0
  v0 := Tryd.zeroValue0
  t3 := Tryd.underlying3
  a3 := Tryd.isAgg3
  z3 := Tryd.sizeOf3
  v3 := Tryd.zeroValue3
  t4 := Tryd.underlying4
  a4 := Tryd.isAgg4
  z4 := Tryd.sizeOf4
  v4 := Tryd.zeroValue4
  t5 := Tryd.underlying5
  a5 := Tryd.isAgg5
  z5 := Tryd.sizeOf5
  v5 := Tryd.zeroValue5
  t9 := Tryd.underlying9
  a9 := Tryd.isAgg9
  z9 := Tryd.sizeOf9
  v9 := Tryd.zeroValue9
  t21 := Tryd.underlying21
  a21 := Tryd.isAgg21
  z21 := Tryd.sizeOf21
  v21 := Tryd.zeroValue21
  t37 := Tryd.underlying87
  a37 := Tryd.isAgg87
  z37 := Tryd.sizeOf87
  v37 := Tryd.zeroValue87
  t46 := Tryd.underlying117
  a46 := Tryd.isAgg117
  z46 := Tryd.sizeOf117
  v46 := Tryd.zeroValue117
  t53 := Tryd.underlying22
  a53 := Tryd.isAgg22
  z53 := Tryd.sizeOf22
  v53 := Tryd.zeroValue22
  t75 := Tryd.underlying84
  a75 := Tryd.isAgg84
  z75 := Tryd.sizeOf84
  v75 := Tryd.zeroValue84
  t167 := Tryd.underlying121
  a167 := Tryd.isAgg121
  z167 := Tryd.sizeOf121
  v167 := Tryd.zeroValue121 }
open Go.RowKit in
/-- internal/strconv.ParseUint("", 10, 0): (0, ErrSyntax). The world is as it was. (LAID: no walk: one application.) -/
theorem Tryd.internal_strconv_ParseUint_10_empty (w : World) :
    Calls Tryd.prog 74 #[.string ⟨#[]⟩, .int .i64 10, .int .i64 0] w fun e w' => e = .returned (Lib.uintTuple 121 (Lib.parseUintB 64 [])) ∧ w' = w := Any.internal_strconv_ParseUint_10_empty Tryd.lays287 w
def Tryd.laysM280_ren : Go.Shelf.Ren := ⟨fun | 280 => 89 | 316 => 99 | n => n, fun | 9 => 9 | 168 => 124 | 75 => 84 | 210 => 136 | 3 => 3 | 4 => 4 | 37 => 87 | 0 => 0 | 127 => 139 | 80 => 146 | 5 => 5 | n => n, fun | 16 => 3 | n => n⟩
theorem Tryd.laysM280 : Go.Proofs.LaysM.n280 Tryd.prog Tryd.laysM280_ren := {
  mixed := by kernel_rfl
  f280 := Tryd.func89.trans (congrArg some (by kernel_rfl))
  f316 := Tryd.func99.trans (congrArg some (by kernel_rfl))
  t0 := Tryd.underlying0
  a0 := Tryd.isAgg0
  z0 := Tryd.sizeOf0
  v0 := Tryd.zeroValue0
  t3 := Tryd.underlying3
  a3 := Tryd.isAgg3
  z3 := Tryd.sizeOf3
  v3 := Tryd.zeroValue3
  t4 := Tryd.underlying4
  a4 := Tryd.isAgg4
  z4 := Tryd.sizeOf4
  v4 := Tryd.zeroValue4
  t9 := Tryd.underlying9
  a9 := Tryd.isAgg9
  z9 := Tryd.sizeOf9
  v9 := Tryd.zeroValue9
  t37 := Tryd.underlying87
  a37 := Tryd.isAgg87
  z37 := Tryd.sizeOf87
  v37 := Tryd.zeroValue87
  t75 := Tryd.underlying84
  a75 := Tryd.isAgg84
  z75 := Tryd.sizeOf84
  v75 := Tryd.zeroValue84
  t127 := Tryd.underlying139
  a127 := Tryd.isAgg139
  z127 := Tryd.sizeOf139
  v127 := Tryd.zeroValue139
  t168 := Tryd.underlying124
  a168 := Tryd.isAgg124
  z168 := Tryd.sizeOf124
  v168 := Tryd.zeroValue124
  t210 := Tryd.underlying136
  a210 := Tryd.isAgg136
  z210 := Tryd.sizeOf136
  v210 := Tryd.zeroValue136
  g16 := by kernel_rfl
  t5 := Tryd.underlying5
  a5 := Tryd.isAgg5
  z5 := Tryd.sizeOf5
  v5 := Tryd.zeroValue5
  t80 := Tryd.underlying146
  a80 := Tryd.isAgg146
  z80 := Tryd.sizeOf146
  v80 := Tryd.zeroValue146
  i0 := by kernel_rfl
  i3 := by kernel_rfl
  i4 := by kernel_rfl
  i5 := by kernel_rfl
  i9 := by kernel_rfl
  i37 := by kernel_rfl
  i75 := by kernel_rfl
  i80 := by kernel_rfl
  i127 := by kernel_rfl
  i168 := by kernel_rfl
  i210 := by kernel_rfl
  m16 := by kernel_rfl }
open Go.RowKit in
/-- strconv.rangeError: '&NumError{fn, stringslite.Clone(str), ErrRange}': A POINTER TO A NEW BLOCK that holds fn, str's bytes, and what the variable ErrRange holds. Of what was there nothing has turned. (LAID: no walk: one application.) -/
theorem Tryd.strconv_rangeError (fn s : ByteArray) (ev : Value) (w : World) (hlim : s.size ≤ 281474976710656) (hv : w.cell? ⟨3, 0, none⟩ = some ev) (hev : ev = .nilIface ∨ ∃ te pe, ev = .iface te pe) :
    Calls Tryd.prog 89 #[.string fn, .string s] w fun e w' => ∃ N, e = .returned (.pointer (some ⟨N, 0, none⟩)) ∧ w.heap.size ≤ N ∧ w'.heap[N]? = some (.cells #[.string fn, .string s, ev] 136 (0, 0)) ∧ Below w.heap.size w w' := Any.strconv_rangeError Tryd.laysM280 fn s ev w hlim hv hev
open Go.RowKit in
/-- strconv.toError, at the inner package's ErrRange: 'rangeError(fn, s)' as an error: A *NumError IN A NEW BLOCK. (LAID: no walk: one application.) -/
theorem Tryd.strconv_toError_range (fn s : ByteArray) (base bits : Int) (ev : Value) (w : World) (hlim : s.size ≤ 281474976710656) (hv : w.cell? ⟨3, 0, none⟩ = some ev) (hev : ev = .nilIface ∨ ∃ te pe, ev = .iface te pe) :
    Calls Tryd.prog 75 #[.string fn, .string s, .int .i64 base, .int .i64 bits, .iface 121 (.int .i64 1)] w fun e w' => ∃ N, e = .returned (.iface 124 (.pointer (some ⟨N, 0, none⟩))) ∧ w.heap.size ≤ N ∧ w'.heap[N]? = some (.cells #[.string fn, .string s, ev] 136 (0, 0)) ∧ Below w.heap.size w w' := Any.strconv_toError_range Tryd.laysC245 fn s base bits ev w hlim hv hev
open Go.RowKit in
/-- internal/strconv.ParseUint("", base, bitSize): (0, ErrSyntax): the first test of the text. The world is as it was. (LAID: no walk: one application.) -/
theorem Tryd.internal_strconv_ParseUint_empty (base bits : Int) (w : World) :
    Calls Tryd.prog 74 #[.string ⟨#[]⟩, .int .i64 base, .int .i64 bits] w fun e w' => e = .returned (.tuple #[.int .u64 0, .iface 121 (.int .i64 2)]) ∧ w' = w := Any.internal_strconv_ParseUint_empty Tryd.lays287 base bits w
def Tryd.laysPu14_ren : Go.Shelf.Ren := ⟨fun | 14 => 57 | 16 => 74 | 17 => 75 | 19 => 86 | 20 => 87 | 21 => 88 | 22 => 89 | 23 => 90 | 24 => 91 | 25 => 99 | 27 => 101 | 26 => 100 | 28 => 104 | 29 => 105 | 30 => 76 | 31 => 77 | 32 => 78 | 33 => 79 | 35 => 93 | 34 => 92 | 36 => 94 | 37 => 95 | 38 => 96 | 39 => 102 | 40 => 103 | n => n, fun | 9 => 9 | 3 => 3 | 22 => 22 | 24 => 84 | 25 => 85 | 4 => 4 | 34 => 121 | 5 => 5 | 36 => 117 | 37 => 87 | 0 => 0 | 39 => 124 | 21 => 21 | 44 => 136 | 47 => 139 | 50 => 142 | 48 => 140 | 2 => 2 | 52 => 112 | 55 => 115 | 59 => 128 | 60 => 129 | 20 => 20 | 61 => 130 | 65 => 143 | 66 => 144 | 67 => 146 | n => n, fun | 0 => 2 | 1 => 3 | 2 => 1 | 3 => 4 | 4 => 5 | n => n⟩
theorem Tryd.laysPu14 : Go.Proofs.LaysPu.n14 Tryd.prog Tryd.laysPu14_ren := {
  mixed := by kernel_rfl
  f14 := Tryd.func57.trans (congrArg some (by kernel_rfl))
  f16 := Tryd.func74.trans (congrArg some (by kernel_rfl))
  f17 := Tryd.func75.trans (congrArg some (by kernel_rfl))
  f19 := Tryd.func86.trans (congrArg some (by kernel_rfl))
  f20 := Tryd.func87.trans (congrArg some (by kernel_rfl))
  f21 := Tryd.func88.trans (congrArg some (by kernel_rfl))
  f22 := Tryd.func89.trans (congrArg some (by kernel_rfl))
  f23 := Tryd.func90.trans (congrArg some (by kernel_rfl))
  f24 := Tryd.func91.trans (congrArg some (by kernel_rfl))
  f25 := Tryd.func99.trans (congrArg some (by kernel_rfl))
  f26 := Tryd.func100.trans (congrArg some (by kernel_rfl))
  f27 := Tryd.func101.trans (congrArg some (by kernel_rfl))
  f28 := Tryd.func104.trans (congrArg some (by kernel_rfl))
  f29 := Tryd.func105.trans (congrArg some (by kernel_rfl))
  f30 := Tryd.func76.trans (congrArg some (by kernel_rfl))
  f31 := Tryd.func77.trans (congrArg some (by kernel_rfl))
  f32 := Tryd.func78.trans (congrArg some (by kernel_rfl))
  f33 := Tryd.func79.trans (congrArg some (by kernel_rfl))
  f34 := Tryd.func92.trans (congrArg some (by kernel_rfl))
  f35 := Tryd.func93.trans (congrArg some (by kernel_rfl))
  f36 := Tryd.func94.trans (congrArg some (by kernel_rfl))
  f37 := Tryd.func95.trans (congrArg some (by kernel_rfl))
  f38 := Tryd.func96.trans (congrArg some (by kernel_rfl))
  f39 := Tryd.func102.trans (congrArg some (by kernel_rfl))
  f40 := Tryd.func103.trans (congrArg some (by kernel_rfl))
  t0 := Tryd.underlying0
  a0 := Tryd.isAgg0
  z0 := Tryd.sizeOf0
  v0 := Tryd.zeroValue0
  i0 := by kernel_rfl
  t2 := Tryd.underlying2
  a2 := Tryd.isAgg2
  z2 := Tryd.sizeOf2
  v2 := Tryd.zeroValue2
  i2 := by kernel_rfl
  t3 := Tryd.underlying3
  a3 := Tryd.isAgg3
  z3 := Tryd.sizeOf3
  v3 := Tryd.zeroValue3
  i3 := by kernel_rfl
  t4 := Tryd.underlying4
  a4 := Tryd.isAgg4
  z4 := Tryd.sizeOf4
  v4 := Tryd.zeroValue4
  i4 := by kernel_rfl
  t5 := Tryd.underlying5
  a5 := Tryd.isAgg5
  z5 := Tryd.sizeOf5
  v5 := Tryd.zeroValue5
  i5 := by kernel_rfl
  t9 := Tryd.underlying9
  a9 := Tryd.isAgg9
  z9 := Tryd.sizeOf9
  v9 := Tryd.zeroValue9
  i9 := by kernel_rfl
  t20 := Tryd.underlying20
  a20 := Tryd.isAgg20
  z20 := Tryd.sizeOf20
  v20 := Tryd.zeroValue20
  i20 := by kernel_rfl
  t21 := Tryd.underlying21
  a21 := Tryd.isAgg21
  z21 := Tryd.sizeOf21
  v21 := Tryd.zeroValue21
  i21 := by kernel_rfl
  t22 := Tryd.underlying22
  a22 := Tryd.isAgg22
  z22 := Tryd.sizeOf22
  v22 := Tryd.zeroValue22
  i22 := by kernel_rfl
  t24 := Tryd.underlying84
  a24 := Tryd.isAgg84
  z24 := Tryd.sizeOf84
  v24 := Tryd.zeroValue84
  i24 := by kernel_rfl
  t25 := Tryd.underlying85
  a25 := Tryd.isAgg85
  z25 := Tryd.sizeOf85
  v25 := Tryd.zeroValue85
  i25 := by kernel_rfl
  t34 := Tryd.underlying121
  a34 := Tryd.isAgg121
  z34 := Tryd.sizeOf121
  v34 := Tryd.zeroValue121
  i34 := by kernel_rfl
  c34 := by kernel_rfl
  t36 := Tryd.underlying117
  a36 := Tryd.isAgg117
  z36 := Tryd.sizeOf117
  v36 := Tryd.zeroValue117
  i36 := by kernel_rfl
  t37 := Tryd.underlying87
  a37 := Tryd.isAgg87
  z37 := Tryd.sizeOf87
  v37 := Tryd.zeroValue87
  i37 := by kernel_rfl
  t39 := Tryd.underlying124
  a39 := Tryd.isAgg124
  z39 := Tryd.sizeOf124
  v39 := Tryd.zeroValue124
  i39 := by kernel_rfl
  t44 := Tryd.underlying136
  a44 := Tryd.isAgg136
  z44 := Tryd.sizeOf136
  v44 := Tryd.zeroValue136
  i44 := by kernel_rfl
  t47 := Tryd.underlying139
  a47 := Tryd.isAgg139
  z47 := Tryd.sizeOf139
  v47 := Tryd.zeroValue139
  i47 := by kernel_rfl
  t48 := Tryd.underlying140
  a48 := Tryd.isAgg140
  z48 := Tryd.sizeOf140
  v48 := Tryd.zeroValue140
  i48 := by kernel_rfl
  t50 := Tryd.underlying142
  a50 := Tryd.isAgg142
  z50 := Tryd.sizeOf142
  v50 := Tryd.zeroValue142
  i50 := by kernel_rfl
  t52 := Tryd.underlying112
  a52 := Tryd.isAgg112
  z52 := Tryd.sizeOf112
  v52 := Tryd.zeroValue112
  i52 := by kernel_rfl
  t55 := Tryd.underlying115
  a55 := Tryd.isAgg115
  z55 := Tryd.sizeOf115
  v55 := Tryd.zeroValue115
  i55 := by kernel_rfl
  t59 := Tryd.underlying128
  a59 := Tryd.isAgg128
  z59 := Tryd.sizeOf128
  v59 := Tryd.zeroValue128
  i59 := by kernel_rfl
  t60 := Tryd.underlying129
  a60 := Tryd.isAgg129
  z60 := Tryd.sizeOf129
  v60 := Tryd.zeroValue129
  i60 := by kernel_rfl
  t61 := Tryd.underlying130
  a61 := Tryd.isAgg130
  z61 := Tryd.sizeOf130
  t65 := Tryd.underlying143
  a65 := Tryd.isAgg143
  z65 := Tryd.sizeOf143
  v65 := Tryd.zeroValue143
  i65 := by kernel_rfl
  t66 := Tryd.underlying144
  a66 := Tryd.isAgg144
  z66 := Tryd.sizeOf144
  v66 := Tryd.zeroValue144
  i66 := by kernel_rfl
  t67 := Tryd.underlying146
  a67 := Tryd.isAgg146
  z67 := Tryd.sizeOf146
  v67 := Tryd.zeroValue146
  i67 := by kernel_rfl
  g0 := by kernel_rfl
  m0 := by kernel_rfl
  g1 := by kernel_rfl
  m1 := by kernel_rfl
  g2 := by kernel_rfl
  m2 := by kernel_rfl
  g3 := by kernel_rfl
  m3 := by kernel_rfl
  g4 := by kernel_rfl
  m4 := by kernel_rfl }
open Go.RowKit in
/-- strconv.ParseUint(s, 10, 0), AT EVERY STRING THAT SPELLS A uint64 ('Lib.parseUintB 64 s.data.toList = .ok u'): u, AND NO ERROR. (LAID: no walk: one application.) -/
theorem Tryd.strconv_ParseUint_10_at0_ok (s : ByteArray) (hmax : s.size ≤ 9223372036854775806) (u : Nat) (h : Lib.parseUintB 64 s.data.toList = .ok u) (w : World) :
    Calls Tryd.prog 57 #[.string s, .int .i64 10, .int .i64 0] w fun e w' => e = .returned (.tuple #[.int .u64 u, .nilIface]) ∧ (w' = w ∨ w' = Lib.bytesWorld w 5 s) := Any.strconv_ParseUint_10_at0_ok Tryd.laysPu14 s hmax u h w
open Go.RowKit in
/-- strconv.ParseUint(s, 10, 0), AT EVERY STRING THAT IS NO ROW OF DECIMAL DIGITS (a sign is a fault): 0, AND AN ERROR THAT IS NOT nil: a *NumError in a new block N: {Func: "ParseUint", Num: s's bytes, Err: what the variable ErrSyntax holds}. Of what was there nothing has turned. (LAID: no walk: one application.) -/
theorem Tryd.strconv_ParseUint_10_at0_syntax (s : ByteArray) (hlim : s.size ≤ 281474976710656) (h : Lib.parseUintB 64 s.data.toList = Lib.parseUintB 64 []) (ev : Value) (w : World) (hv : w.cell? ⟨2, 0, none⟩ = some ev) (hev : ev = .nilIface ∨ ∃ te pe, ev = .iface te pe) :
    Calls Tryd.prog 57 #[.string s, .int .i64 10, .int .i64 0] w fun e w' => ∃ N, e = .returned (.tuple #[.int .u64 0, .iface 124 (.pointer (some ⟨N, 0, none⟩))]) ∧ w.heap.size ≤ N ∧ w'.heap[N]? = some (.cells #[.string ⟨#[80, 97, 114, 115, 101, 85, 105, 110, 116]⟩, .string s, ev] 136 (0, 0)) ∧ Below w.heap.size w w' := Any.strconv_ParseUint_10_at0_syntax Tryd.laysPu14 s hlim h ev w hv hev
open Go.RowKit in
/-- strconv.ParseUint(s, 10, 0), AT EVERY NUMERAL THAT NO uint64 HOLDS: THE GREATEST uint64, AND AN ERROR THAT IS NOT nil: a *NumError in a new block N: {Func: "ParseUint", Num: s's bytes, Err: what the variable ErrRange holds}. Of what was there nothing has turned. (LAID: no walk: one application.) -/
theorem Tryd.strconv_ParseUint_10_at0_range (s : ByteArray) (hlim : s.size ≤ 281474976710656) (h : Lib.parseUintB 64 s.data.toList = .range) (ev : Value) (w : World) (hv : w.cell? ⟨3, 0, none⟩ = some ev) (hev : ev = .nilIface ∨ ∃ te pe, ev = .iface te pe) :
    Calls Tryd.prog 57 #[.string s, .int .i64 10, .int .i64 0] w fun e w' => ∃ N, e = .returned (.tuple #[.int .u64 18446744073709551615, .iface 124 (.pointer (some ⟨N, 0, none⟩))]) ∧ w.heap.size ≤ N ∧ w'.heap[N]? = some (.cells #[.string ⟨#[80, 97, 114, 115, 101, 85, 105, 110, 116]⟩, .string s, ev] 136 (0, 0)) ∧ Below w.heap.size w w' := Any.strconv_ParseUint_10_at0_range Tryd.laysPu14 s hlim h ev w hv hev
open Go.RowKit in
/-- strconv.ParseUint(s, 10, 64), AT EVERY STRING THAT SPELLS A uint64 ('Lib.parseUintB 64 s.data.toList = .ok u'): u, AND NO ERROR. (LAID: no walk: one application.) -/
theorem Tryd.strconv_ParseUint_10_at64_ok (s : ByteArray) (hmax : s.size ≤ 9223372036854775806) (u : Nat) (h : Lib.parseUintB 64 s.data.toList = .ok u) (w : World) :
    Calls Tryd.prog 57 #[.string s, .int .i64 10, .int .i64 64] w fun e w' => e = .returned (.tuple #[.int .u64 u, .nilIface]) ∧ (w' = w ∨ w' = Lib.bytesWorld w 5 s) := Any.strconv_ParseUint_10_at64_ok Tryd.laysPu14 s hmax u h w
open Go.RowKit in
/-- strconv.ParseUint(s, 10, 64), AT EVERY STRING THAT IS NO ROW OF DECIMAL DIGITS (a sign is a fault): 0, AND AN ERROR THAT IS NOT nil: a *NumError in a new block N: {Func: "ParseUint", Num: s's bytes, Err: what the variable ErrSyntax holds}. Of what was there nothing has turned. (LAID: no walk: one application.) -/
theorem Tryd.strconv_ParseUint_10_at64_syntax (s : ByteArray) (hlim : s.size ≤ 281474976710656) (h : Lib.parseUintB 64 s.data.toList = Lib.parseUintB 64 []) (ev : Value) (w : World) (hv : w.cell? ⟨2, 0, none⟩ = some ev) (hev : ev = .nilIface ∨ ∃ te pe, ev = .iface te pe) :
    Calls Tryd.prog 57 #[.string s, .int .i64 10, .int .i64 64] w fun e w' => ∃ N, e = .returned (.tuple #[.int .u64 0, .iface 124 (.pointer (some ⟨N, 0, none⟩))]) ∧ w.heap.size ≤ N ∧ w'.heap[N]? = some (.cells #[.string ⟨#[80, 97, 114, 115, 101, 85, 105, 110, 116]⟩, .string s, ev] 136 (0, 0)) ∧ Below w.heap.size w w' := Any.strconv_ParseUint_10_at64_syntax Tryd.laysPu14 s hlim h ev w hv hev
open Go.RowKit in
/-- strconv.ParseUint(s, 10, 64), AT EVERY NUMERAL THAT NO uint64 HOLDS: THE GREATEST uint64, AND AN ERROR THAT IS NOT nil: a *NumError in a new block N: {Func: "ParseUint", Num: s's bytes, Err: what the variable ErrRange holds}. Of what was there nothing has turned. (LAID: no walk: one application.) -/
theorem Tryd.strconv_ParseUint_10_at64_range (s : ByteArray) (hlim : s.size ≤ 281474976710656) (h : Lib.parseUintB 64 s.data.toList = .range) (ev : Value) (w : World) (hv : w.cell? ⟨3, 0, none⟩ = some ev) (hev : ev = .nilIface ∨ ∃ te pe, ev = .iface te pe) :
    Calls Tryd.prog 57 #[.string s, .int .i64 10, .int .i64 64] w fun e w' => ∃ N, e = .returned (.tuple #[.int .u64 18446744073709551615, .iface 124 (.pointer (some ⟨N, 0, none⟩))]) ∧ w.heap.size ≤ N ∧ w'.heap[N]? = some (.cells #[.string ⟨#[80, 97, 114, 115, 101, 85, 105, 110, 116]⟩, .string s, ev] 136 (0, 0)) ∧ Below w.heap.size w w' := Any.strconv_ParseUint_10_at64_range Tryd.laysPu14 s hlim h ev w hv hev
open Go.RowKit in
/-- strconv.ParseUint(s, 10, 32), AT EVERY STRING THAT SPELLS A uint32 ('Lib.parseUintB 32 s.data.toList = .ok u'): u, AND NO ERROR. (LAID: no walk: one application.) -/
theorem Tryd.strconv_ParseUint_10_at32_ok (s : ByteArray) (hmax : s.size ≤ 9223372036854775806) (u : Nat) (h : Lib.parseUintB 32 s.data.toList = .ok u) (w : World) :
    Calls Tryd.prog 57 #[.string s, .int .i64 10, .int .i64 32] w fun e w' => e = .returned (.tuple #[.int .u64 u, .nilIface]) ∧ (w' = w ∨ w' = Lib.bytesWorld w 5 s) := Any.strconv_ParseUint_10_at32_ok Tryd.laysPu14 s hmax u h w
open Go.RowKit in
/-- strconv.ParseUint(s, 10, 32), AT EVERY STRING THAT IS NO ROW OF DECIMAL DIGITS (a sign is a fault): 0, AND AN ERROR THAT IS NOT nil: a *NumError in a new block N: {Func: "ParseUint", Num: s's bytes, Err: what the variable ErrSyntax holds}. Of what was there nothing has turned. (LAID: no walk: one application.) -/
theorem Tryd.strconv_ParseUint_10_at32_syntax (s : ByteArray) (hlim : s.size ≤ 281474976710656) (h : Lib.parseUintB 32 s.data.toList = Lib.parseUintB 64 []) (ev : Value) (w : World) (hv : w.cell? ⟨2, 0, none⟩ = some ev) (hev : ev = .nilIface ∨ ∃ te pe, ev = .iface te pe) :
    Calls Tryd.prog 57 #[.string s, .int .i64 10, .int .i64 32] w fun e w' => ∃ N, e = .returned (.tuple #[.int .u64 0, .iface 124 (.pointer (some ⟨N, 0, none⟩))]) ∧ w.heap.size ≤ N ∧ w'.heap[N]? = some (.cells #[.string ⟨#[80, 97, 114, 115, 101, 85, 105, 110, 116]⟩, .string s, ev] 136 (0, 0)) ∧ Below w.heap.size w w' := Any.strconv_ParseUint_10_at32_syntax Tryd.laysPu14 s hlim h ev w hv hev
open Go.RowKit in
/-- strconv.ParseUint(s, 10, 32), AT EVERY NUMERAL THAT NO uint32 HOLDS: THE GREATEST uint32, AND AN ERROR THAT IS NOT nil: a *NumError in a new block N: {Func: "ParseUint", Num: s's bytes, Err: what the variable ErrRange holds}. Of what was there nothing has turned. (LAID: no walk: one application.) -/
theorem Tryd.strconv_ParseUint_10_at32_range (s : ByteArray) (hlim : s.size ≤ 281474976710656) (h : Lib.parseUintB 32 s.data.toList = .range) (ev : Value) (w : World) (hv : w.cell? ⟨3, 0, none⟩ = some ev) (hev : ev = .nilIface ∨ ∃ te pe, ev = .iface te pe) :
    Calls Tryd.prog 57 #[.string s, .int .i64 10, .int .i64 32] w fun e w' => ∃ N, e = .returned (.tuple #[.int .u64 4294967295, .iface 124 (.pointer (some ⟨N, 0, none⟩))]) ∧ w.heap.size ≤ N ∧ w'.heap[N]? = some (.cells #[.string ⟨#[80, 97, 114, 115, 101, 85, 105, 110, 116]⟩, .string s, ev] 136 (0, 0)) ∧ Below w.heap.size w w' := Any.strconv_ParseUint_10_at32_range Tryd.laysPu14 s hlim h ev w hv hev
open Go.RowKit in
/-- strconv.ParseUint(s, 10, 16), AT EVERY STRING THAT SPELLS A uint16 ('Lib.parseUintB 16 s.data.toList = .ok u'): u, AND NO ERROR. (LAID: no walk: one application.) -/
theorem Tryd.strconv_ParseUint_10_at16_ok (s : ByteArray) (hmax : s.size ≤ 9223372036854775806) (u : Nat) (h : Lib.parseUintB 16 s.data.toList = .ok u) (w : World) :
    Calls Tryd.prog 57 #[.string s, .int .i64 10, .int .i64 16] w fun e w' => e = .returned (.tuple #[.int .u64 u, .nilIface]) ∧ (w' = w ∨ w' = Lib.bytesWorld w 5 s) := Any.strconv_ParseUint_10_at16_ok Tryd.laysPu14 s hmax u h w
open Go.RowKit in
/-- strconv.ParseUint(s, 10, 16), AT EVERY STRING THAT IS NO ROW OF DECIMAL DIGITS (a sign is a fault): 0, AND AN ERROR THAT IS NOT nil: a *NumError in a new block N: {Func: "ParseUint", Num: s's bytes, Err: what the variable ErrSyntax holds}. Of what was there nothing has turned. (LAID: no walk: one application.) -/
theorem Tryd.strconv_ParseUint_10_at16_syntax (s : ByteArray) (hlim : s.size ≤ 281474976710656) (h : Lib.parseUintB 16 s.data.toList = Lib.parseUintB 64 []) (ev : Value) (w : World) (hv : w.cell? ⟨2, 0, none⟩ = some ev) (hev : ev = .nilIface ∨ ∃ te pe, ev = .iface te pe) :
    Calls Tryd.prog 57 #[.string s, .int .i64 10, .int .i64 16] w fun e w' => ∃ N, e = .returned (.tuple #[.int .u64 0, .iface 124 (.pointer (some ⟨N, 0, none⟩))]) ∧ w.heap.size ≤ N ∧ w'.heap[N]? = some (.cells #[.string ⟨#[80, 97, 114, 115, 101, 85, 105, 110, 116]⟩, .string s, ev] 136 (0, 0)) ∧ Below w.heap.size w w' := Any.strconv_ParseUint_10_at16_syntax Tryd.laysPu14 s hlim h ev w hv hev
open Go.RowKit in
/-- strconv.ParseUint(s, 10, 16), AT EVERY NUMERAL THAT NO uint16 HOLDS: THE GREATEST uint16, AND AN ERROR THAT IS NOT nil: a *NumError in a new block N: {Func: "ParseUint", Num: s's bytes, Err: what the variable ErrRange holds}. Of what was there nothing has turned. (LAID: no walk: one application.) -/
theorem Tryd.strconv_ParseUint_10_at16_range (s : ByteArray) (hlim : s.size ≤ 281474976710656) (h : Lib.parseUintB 16 s.data.toList = .range) (ev : Value) (w : World) (hv : w.cell? ⟨3, 0, none⟩ = some ev) (hev : ev = .nilIface ∨ ∃ te pe, ev = .iface te pe) :
    Calls Tryd.prog 57 #[.string s, .int .i64 10, .int .i64 16] w fun e w' => ∃ N, e = .returned (.tuple #[.int .u64 65535, .iface 124 (.pointer (some ⟨N, 0, none⟩))]) ∧ w.heap.size ≤ N ∧ w'.heap[N]? = some (.cells #[.string ⟨#[80, 97, 114, 115, 101, 85, 105, 110, 116]⟩, .string s, ev] 136 (0, 0)) ∧ Below w.heap.size w w' := Any.strconv_ParseUint_10_at16_range Tryd.laysPu14 s hlim h ev w hv hev
open Go.RowKit in
/-- strconv.ParseUint(s, 10, 8), AT EVERY STRING THAT SPELLS A uint8 ('Lib.parseUintB 8 s.data.toList = .ok u'): u, AND NO ERROR. (LAID: no walk: one application.) -/
theorem Tryd.strconv_ParseUint_10_at8_ok (s : ByteArray) (hmax : s.size ≤ 9223372036854775806) (u : Nat) (h : Lib.parseUintB 8 s.data.toList = .ok u) (w : World) :
    Calls Tryd.prog 57 #[.string s, .int .i64 10, .int .i64 8] w fun e w' => e = .returned (.tuple #[.int .u64 u, .nilIface]) ∧ (w' = w ∨ w' = Lib.bytesWorld w 5 s) := Any.strconv_ParseUint_10_at8_ok Tryd.laysPu14 s hmax u h w
open Go.RowKit in
/-- strconv.ParseUint(s, 10, 8), AT EVERY STRING THAT IS NO ROW OF DECIMAL DIGITS (a sign is a fault): 0, AND AN ERROR THAT IS NOT nil: a *NumError in a new block N: {Func: "ParseUint", Num: s's bytes, Err: what the variable ErrSyntax holds}. Of what was there nothing has turned. (LAID: no walk: one application.) -/
theorem Tryd.strconv_ParseUint_10_at8_syntax (s : ByteArray) (hlim : s.size ≤ 281474976710656) (h : Lib.parseUintB 8 s.data.toList = Lib.parseUintB 64 []) (ev : Value) (w : World) (hv : w.cell? ⟨2, 0, none⟩ = some ev) (hev : ev = .nilIface ∨ ∃ te pe, ev = .iface te pe) :
    Calls Tryd.prog 57 #[.string s, .int .i64 10, .int .i64 8] w fun e w' => ∃ N, e = .returned (.tuple #[.int .u64 0, .iface 124 (.pointer (some ⟨N, 0, none⟩))]) ∧ w.heap.size ≤ N ∧ w'.heap[N]? = some (.cells #[.string ⟨#[80, 97, 114, 115, 101, 85, 105, 110, 116]⟩, .string s, ev] 136 (0, 0)) ∧ Below w.heap.size w w' := Any.strconv_ParseUint_10_at8_syntax Tryd.laysPu14 s hlim h ev w hv hev
open Go.RowKit in
/-- strconv.ParseUint(s, 10, 8), AT EVERY NUMERAL THAT NO uint8 HOLDS: THE GREATEST uint8, AND AN ERROR THAT IS NOT nil: a *NumError in a new block N: {Func: "ParseUint", Num: s's bytes, Err: what the variable ErrRange holds}. Of what was there nothing has turned. (LAID: no walk: one application.) -/
theorem Tryd.strconv_ParseUint_10_at8_range (s : ByteArray) (hlim : s.size ≤ 281474976710656) (h : Lib.parseUintB 8 s.data.toList = .range) (ev : Value) (w : World) (hv : w.cell? ⟨3, 0, none⟩ = some ev) (hev : ev = .nilIface ∨ ∃ te pe, ev = .iface te pe) :
    Calls Tryd.prog 57 #[.string s, .int .i64 10, .int .i64 8] w fun e w' => ∃ N, e = .returned (.tuple #[.int .u64 255, .iface 124 (.pointer (some ⟨N, 0, none⟩))]) ∧ w.heap.size ≤ N ∧ w'.heap[N]? = some (.cells #[.string ⟨#[80, 97, 114, 115, 101, 85, 105, 110, 116]⟩, .string s, ev] 136 (0, 0)) ∧ Below w.heap.size w w' := Any.strconv_ParseUint_10_at8_range Tryd.laysPu14 s hlim h ev w hv hev
open Go.RowKit in
theorem Tryd.strconv_ParseUint_10_at0_syntax_var (s : ByteArray) (hlim : s.size ≤ 281474976710656) (h : Lib.parseUintB 64 s.data.toList = Lib.parseUintB 64 []) (tp : TypeId) (p : Value) (w : World) (hvar : w.var? Tryd.prog "strconv.ErrSyntax" = some #[.iface tp p]) :
    Calls Tryd.prog 57 #[.string s, .int .i64 10, .int .i64 0] w fun e w' => ∃ N, e = .returned (.tuple #[.int .u64 0, .iface 124 (.pointer (some ⟨N, 0, none⟩))]) ∧ w.heap.size ≤ N ∧ w'.heap[N]? = some (.cells #[.string ⟨#[80, 97, 114, 115, 101, 85, 105, 110, 116]⟩, .string s, .iface tp p] 136 (0, 0)) ∧ Below w.heap.size w w' := Any.strconv_ParseUint_10_at0_syntax_var Tryd.laysPu14 s hlim h tp p w hvar
open Go.RowKit in
theorem Tryd.strconv_ParseUint_10_at0_range_var (s : ByteArray) (hlim : s.size ≤ 281474976710656) (h : Lib.parseUintB 64 s.data.toList = .range) (tp : TypeId) (p : Value) (w : World) (hvar : w.var? Tryd.prog "strconv.ErrRange" = some #[.iface tp p]) :
    Calls Tryd.prog 57 #[.string s, .int .i64 10, .int .i64 0] w fun e w' => ∃ N, e = .returned (.tuple #[.int .u64 18446744073709551615, .iface 124 (.pointer (some ⟨N, 0, none⟩))]) ∧ w.heap.size ≤ N ∧ w'.heap[N]? = some (.cells #[.string ⟨#[80, 97, 114, 115, 101, 85, 105, 110, 116]⟩, .string s, .iface tp p] 136 (0, 0)) ∧ Below w.heap.size w w' := Any.strconv_ParseUint_10_at0_range_var Tryd.laysPu14 s hlim h tp p w hvar
open Go.RowKit in
theorem Tryd.strconv_ParseUint_10_at64_syntax_var (s : ByteArray) (hlim : s.size ≤ 281474976710656) (h : Lib.parseUintB 64 s.data.toList = Lib.parseUintB 64 []) (tp : TypeId) (p : Value) (w : World) (hvar : w.var? Tryd.prog "strconv.ErrSyntax" = some #[.iface tp p]) :
    Calls Tryd.prog 57 #[.string s, .int .i64 10, .int .i64 64] w fun e w' => ∃ N, e = .returned (.tuple #[.int .u64 0, .iface 124 (.pointer (some ⟨N, 0, none⟩))]) ∧ w.heap.size ≤ N ∧ w'.heap[N]? = some (.cells #[.string ⟨#[80, 97, 114, 115, 101, 85, 105, 110, 116]⟩, .string s, .iface tp p] 136 (0, 0)) ∧ Below w.heap.size w w' := Any.strconv_ParseUint_10_at64_syntax_var Tryd.laysPu14 s hlim h tp p w hvar
open Go.RowKit in
theorem Tryd.strconv_ParseUint_10_at64_range_var (s : ByteArray) (hlim : s.size ≤ 281474976710656) (h : Lib.parseUintB 64 s.data.toList = .range) (tp : TypeId) (p : Value) (w : World) (hvar : w.var? Tryd.prog "strconv.ErrRange" = some #[.iface tp p]) :
    Calls Tryd.prog 57 #[.string s, .int .i64 10, .int .i64 64] w fun e w' => ∃ N, e = .returned (.tuple #[.int .u64 18446744073709551615, .iface 124 (.pointer (some ⟨N, 0, none⟩))]) ∧ w.heap.size ≤ N ∧ w'.heap[N]? = some (.cells #[.string ⟨#[80, 97, 114, 115, 101, 85, 105, 110, 116]⟩, .string s, .iface tp p] 136 (0, 0)) ∧ Below w.heap.size w w' := Any.strconv_ParseUint_10_at64_range_var Tryd.laysPu14 s hlim h tp p w hvar
open Go.RowKit in
theorem Tryd.strconv_ParseUint_10_at32_syntax_var (s : ByteArray) (hlim : s.size ≤ 281474976710656) (h : Lib.parseUintB 32 s.data.toList = Lib.parseUintB 64 []) (tp : TypeId) (p : Value) (w : World) (hvar : w.var? Tryd.prog "strconv.ErrSyntax" = some #[.iface tp p]) :
    Calls Tryd.prog 57 #[.string s, .int .i64 10, .int .i64 32] w fun e w' => ∃ N, e = .returned (.tuple #[.int .u64 0, .iface 124 (.pointer (some ⟨N, 0, none⟩))]) ∧ w.heap.size ≤ N ∧ w'.heap[N]? = some (.cells #[.string ⟨#[80, 97, 114, 115, 101, 85, 105, 110, 116]⟩, .string s, .iface tp p] 136 (0, 0)) ∧ Below w.heap.size w w' := Any.strconv_ParseUint_10_at32_syntax_var Tryd.laysPu14 s hlim h tp p w hvar
open Go.RowKit in
theorem Tryd.strconv_ParseUint_10_at32_range_var (s : ByteArray) (hlim : s.size ≤ 281474976710656) (h : Lib.parseUintB 32 s.data.toList = .range) (tp : TypeId) (p : Value) (w : World) (hvar : w.var? Tryd.prog "strconv.ErrRange" = some #[.iface tp p]) :
    Calls Tryd.prog 57 #[.string s, .int .i64 10, .int .i64 32] w fun e w' => ∃ N, e = .returned (.tuple #[.int .u64 4294967295, .iface 124 (.pointer (some ⟨N, 0, none⟩))]) ∧ w.heap.size ≤ N ∧ w'.heap[N]? = some (.cells #[.string ⟨#[80, 97, 114, 115, 101, 85, 105, 110, 116]⟩, .string s, .iface tp p] 136 (0, 0)) ∧ Below w.heap.size w w' := Any.strconv_ParseUint_10_at32_range_var Tryd.laysPu14 s hlim h tp p w hvar
open Go.RowKit in
theorem Tryd.strconv_ParseUint_10_at16_syntax_var (s : ByteArray) (hlim : s.size ≤ 281474976710656) (h : Lib.parseUintB 16 s.data.toList = Lib.parseUintB 64 []) (tp : TypeId) (p : Value) (w : World) (hvar : w.var? Tryd.prog "strconv.ErrSyntax" = some #[.iface tp p]) :
    Calls Tryd.prog 57 #[.string s, .int .i64 10, .int .i64 16] w fun e w' => ∃ N, e = .returned (.tuple #[.int .u64 0, .iface 124 (.pointer (some ⟨N, 0, none⟩))]) ∧ w.heap.size ≤ N ∧ w'.heap[N]? = some (.cells #[.string ⟨#[80, 97, 114, 115, 101, 85, 105, 110, 116]⟩, .string s, .iface tp p] 136 (0, 0)) ∧ Below w.heap.size w w' := Any.strconv_ParseUint_10_at16_syntax_var Tryd.laysPu14 s hlim h tp p w hvar
open Go.RowKit in
theorem Tryd.strconv_ParseUint_10_at16_range_var (s : ByteArray) (hlim : s.size ≤ 281474976710656) (h : Lib.parseUintB 16 s.data.toList = .range) (tp : TypeId) (p : Value) (w : World) (hvar : w.var? Tryd.prog "strconv.ErrRange" = some #[.iface tp p]) :
    Calls Tryd.prog 57 #[.string s, .int .i64 10, .int .i64 16] w fun e w' => ∃ N, e = .returned (.tuple #[.int .u64 65535, .iface 124 (.pointer (some ⟨N, 0, none⟩))]) ∧ w.heap.size ≤ N ∧ w'.heap[N]? = some (.cells #[.string ⟨#[80, 97, 114, 115, 101, 85, 105, 110, 116]⟩, .string s, .iface tp p] 136 (0, 0)) ∧ Below w.heap.size w w' := Any.strconv_ParseUint_10_at16_range_var Tryd.laysPu14 s hlim h tp p w hvar
open Go.RowKit in
theorem Tryd.strconv_ParseUint_10_at8_syntax_var (s : ByteArray) (hlim : s.size ≤ 281474976710656) (h : Lib.parseUintB 8 s.data.toList = Lib.parseUintB 64 []) (tp : TypeId) (p : Value) (w : World) (hvar : w.var? Tryd.prog "strconv.ErrSyntax" = some #[.iface tp p]) :
    Calls Tryd.prog 57 #[.string s, .int .i64 10, .int .i64 8] w fun e w' => ∃ N, e = .returned (.tuple #[.int .u64 0, .iface 124 (.pointer (some ⟨N, 0, none⟩))]) ∧ w.heap.size ≤ N ∧ w'.heap[N]? = some (.cells #[.string ⟨#[80, 97, 114, 115, 101, 85, 105, 110, 116]⟩, .string s, .iface tp p] 136 (0, 0)) ∧ Below w.heap.size w w' := Any.strconv_ParseUint_10_at8_syntax_var Tryd.laysPu14 s hlim h tp p w hvar
open Go.RowKit in
theorem Tryd.strconv_ParseUint_10_at8_range_var (s : ByteArray) (hlim : s.size ≤ 281474976710656) (h : Lib.parseUintB 8 s.data.toList = .range) (tp : TypeId) (p : Value) (w : World) (hvar : w.var? Tryd.prog "strconv.ErrRange" = some #[.iface tp p]) :
    Calls Tryd.prog 57 #[.string s, .int .i64 10, .int .i64 8] w fun e w' => ∃ N, e = .returned (.tuple #[.int .u64 255, .iface 124 (.pointer (some ⟨N, 0, none⟩))]) ∧ w.heap.size ≤ N ∧ w'.heap[N]? = some (.cells #[.string ⟨#[80, 97, 114, 115, 101, 85, 105, 110, 116]⟩, .string s, .iface tp p] 136 (0, 0)) ∧ Below w.heap.size w w' := Any.strconv_ParseUint_10_at8_range_var Tryd.laysPu14 s hlim h tp p w hvar
def Tryd.lays217_ren : Go.Shelf.Ren := ⟨fun | 217 => 82 | 266 => 97 | n => n, fun | 9 => 9 | 5 => 5 | 3 => 3 | n => n, fun | n => n⟩
theorem Tryd.lays217 : Go.Proofs.Lays.n217 Tryd.prog Tryd.lays217_ren := {
  mixed := by kernel_rfl
  f217 := Tryd.func82.trans (congrArg some (by kernel_rfl))
  f266 := Tryd.func97.trans (congrArg some (by kernel_rfl))
  t3 := Tryd.underlying3
  a3 := Tryd.isAgg3
  z3 := Tryd.sizeOf3
  v3 := Tryd.zeroValue3
  t5 := Tryd.underlying5
  a5 := Tryd.isAgg5
  z5 := Tryd.sizeOf5
  v5 := Tryd.zeroValue5
  t9 := Tryd.underlying9
  a9 := Tryd.isAgg9
  z9 := Tryd.sizeOf9
  v9 := Tryd.zeroValue9 }
open Go.RowKit Go.Lib in
/-- internal/stringslite.IndexByte (what strings.IndexByte calls): IT RETURNS 'Lib.indexByte s c'; the world is as it was. (LAID: no walk: one application.) -/
theorem Tryd.stringslite_IndexByte (s : ByteArray) (c : Int) (w : World) :
    Calls Tryd.prog 82 #[.string s, .int .u8 c] w fun e w' => e = .returned (.int .i64 (Lib.indexByte s.data.toList c.toNat.toUInt8)) ∧ w' = w := Any.stringslite_IndexByte Tryd.lays217 s c w
def Tryd.lays224_ren : Go.Shelf.Ren := ⟨fun | 224 => 84 | n => n, fun | 3 => 3 | n => n, fun | n => n⟩
theorem Tryd.lays224 : Go.Proofs.Lays.n224 Tryd.prog Tryd.lays224_ren := {
  mixed := by kernel_rfl
  f224 := Tryd.func84.trans (congrArg some (by kernel_rfl))
  t3 := Tryd.underlying3
  a3 := Tryd.isAgg3
  z3 := Tryd.sizeOf3
  v3 := Tryd.zeroValue3 }
open Go.RowKit Go.Lib in
/-- internal/bytealg.Cutover: "Cutover reports the number of failures of IndexByte we should tolerate before switching over to Index. n is the number of bytes processed so far.": on amd64: (n + 16) / 8. (LAID: no walk: one application.) -/
theorem Tryd.bytealg_Cutover (n : Int) (h0 : 0 ≤ n) (h1 : n < 4611686018427387904) (w : World) :
    Calls Tryd.prog 84 #[.int .i64 n] w fun e w' => e = .returned (.int .i64 ((n + 16) / 8)) ∧ w' = w := Any.bytealg_Cutover Tryd.lays224 n h0 h1 w
def Tryd.lays314_ren : Go.Shelf.Ren := ⟨fun | 314 => 98 | n => n, fun | 9 => 9 | 51 => 129 | 3 => 3 | 4 => 4 | 5 => 5 | 46 => 117 | n => n, fun | n => n⟩
theorem Tryd.lays314 : Go.Proofs.Lays.n314 Tryd.prog Tryd.lays314_ren := {
  mixed := by kernel_rfl
  f314 := Tryd.func98.trans (congrArg some (by kernel_rfl))
  t3 := Tryd.underlying3
  a3 := Tryd.isAgg3
  z3 := Tryd.sizeOf3
  v3 := Tryd.zeroValue3
  t4 := Tryd.underlying4
  a4 := Tryd.isAgg4
  z4 := Tryd.sizeOf4
  v4 := Tryd.zeroValue4
  t5 := Tryd.underlying5
  a5 := Tryd.isAgg5
  z5 := Tryd.sizeOf5
  v5 := Tryd.zeroValue5
  t9 := Tryd.underlying9
  a9 := Tryd.isAgg9
  z9 := Tryd.sizeOf9
  v9 := Tryd.zeroValue9
  t46 := Tryd.underlying117
  a46 := Tryd.isAgg117
  z46 := Tryd.sizeOf117
  v46 := Tryd.zeroValue117
  t51 := Tryd.underlying129
  a51 := Tryd.isAgg129
  z51 := Tryd.sizeOf129
  v51 := Tryd.zeroValue129 }
open Go.RowKit Go.Lib in
/-- hashStr: "returns the hash and the appropriate multiplicative factor for use in Rabin-Karp algorithm": THE HASH OF ALL OF sep, AND 16777619 ^ len(sep), both in uint32. (LAID: no walk: one application.) -/
theorem Tryd.bytealg_hashStr (sep : ByteArray) (hs : sep.size < 4294967281) (w : World) :
    Calls Tryd.prog 98 #[.string sep] w fun e w' => e = .returned (.tuple #[.int .u32 (RK.H sep.data.toList % 4294967296), .int .u32 (16777619 ^ sep.size % 4294967296)]) ∧ w' = w := Any.bytealg_hashStr Tryd.lays314 sep hs w
def Tryd.lays267_ren : Go.Shelf.Ren := ⟨fun | 267 => 85 | 314 => 98 | n => n, fun | 9 => 9 | 3 => 3 | 146 => 132 | 51 => 129 | 4 => 4 | 5 => 5 | 46 => 117 | n => n, fun | n => n⟩
theorem Tryd.lays267 : Go.Proofs.Lays.n267 Tryd.prog Tryd.lays267_ren := {
  mixed := by kernel_rfl
  f267 := Tryd.func85.trans (congrArg some (by kernel_rfl))
  f314 := Tryd.func98.trans (congrArg some (by kernel_rfl))
  t3 := Tryd.underlying3
  a3 := Tryd.isAgg3
  z3 := Tryd.sizeOf3
  v3 := Tryd.zeroValue3
  t4 := Tryd.underlying4
  a4 := Tryd.isAgg4
  z4 := Tryd.sizeOf4
  v4 := Tryd.zeroValue4
  t5 := Tryd.underlying5
  a5 := Tryd.isAgg5
  z5 := Tryd.sizeOf5
  v5 := Tryd.zeroValue5
  t9 := Tryd.underlying9
  a9 := Tryd.isAgg9
  z9 := Tryd.sizeOf9
  v9 := Tryd.zeroValue9
  t46 := Tryd.underlying117
  a46 := Tryd.isAgg117
  z46 := Tryd.sizeOf117
  v46 := Tryd.zeroValue117
  t51 := Tryd.underlying129
  a51 := Tryd.isAgg129
  z51 := Tryd.sizeOf129
  v51 := Tryd.zeroValue129
  t146 := Tryd.underlying132
  a146 := Tryd.isAgg132
  z146 := Tryd.sizeOf132
  v146 := Tryd.zeroValue132 }
open Go.RowKit Go.Lib in
theorem Tryd.bytealg_IndexRabinKarp (s sep : ByteArray) (h1 : 1 ≤ sep.size) (h2 : sep.size ≤ s.size) (hs : s.size < 4294967281) (w : World) :
    Calls Tryd.prog 85 #[.string s, .string sep] w fun e w' => e = .returned (.int .i64 (Lib.index s.data.toList sep.data.toList)) ∧ w' = w := Any.bytealg_IndexRabinKarp Tryd.lays267 s sep h1 h2 hs w
def Tryd.lays219_ren : Go.Shelf.Ren := ⟨fun | 219 => 73 | 217 => 82 | 225 => 83 | 224 => 84 | 267 => 85 | 266 => 97 | 314 => 98 | n => n, fun | 9 => 9 | 3 => 3 | 4 => 4 | 5 => 5 | 46 => 117 | 146 => 132 | 51 => 129 | n => n, fun | 1 => 0 | n => n⟩
theorem Tryd.lays219 : Go.Proofs.Lays.n219 Tryd.prog Tryd.lays219_ren := {
  mixed := by kernel_rfl
  f217 := Tryd.func82.trans (congrArg some (by kernel_rfl))
  f219 := Tryd.func73.trans (congrArg some (by kernel_rfl))
  f224 := Tryd.func84.trans (congrArg some (by kernel_rfl))
  f225 := Tryd.func83.trans (congrArg some (by kernel_rfl))
  f266 := Tryd.func97.trans (congrArg some (by kernel_rfl))
  f267 := Tryd.func85.trans (congrArg some (by kernel_rfl))
  f314 := Tryd.func98.trans (congrArg some (by kernel_rfl))
  t3 := Tryd.underlying3
  a3 := Tryd.isAgg3
  z3 := Tryd.sizeOf3
  v3 := Tryd.zeroValue3
  t4 := Tryd.underlying4
  a4 := Tryd.isAgg4
  z4 := Tryd.sizeOf4
  v4 := Tryd.zeroValue4
  t5 := Tryd.underlying5
  a5 := Tryd.isAgg5
  z5 := Tryd.sizeOf5
  v5 := Tryd.zeroValue5
  t9 := Tryd.underlying9
  a9 := Tryd.isAgg9
  z9 := Tryd.sizeOf9
  v9 := Tryd.zeroValue9
  t46 := Tryd.underlying117
  a46 := Tryd.isAgg117
  z46 := Tryd.sizeOf117
  v46 := Tryd.zeroValue117
  t51 := Tryd.underlying129
  a51 := Tryd.isAgg129
  z51 := Tryd.sizeOf129
  v51 := Tryd.zeroValue129
  t146 := Tryd.underlying132
  a146 := Tryd.isAgg132
  z146 := Tryd.sizeOf132
  v146 := Tryd.zeroValue132
  g1 := by kernel_rfl }
open Go.RowKit Go.Lib in
/-- internal/stringslite.Index (what strings.Index calls) AT A substr OF ONE BYTE c: IT RETURNS 'Lib.indexByte s c'; the world is as it was. (LAID: no walk: one application.) -/
theorem Tryd.stringslite_Index_one (s : ByteArray) (c : UInt8) (w : World) :
    Calls Tryd.prog 73 #[.string s, .string ⟨#[c]⟩] w fun e w' => e = .returned (.int .i64 (Lib.indexByte s.data.toList c)) ∧ w' = w := Any.stringslite_Index_one Tryd.lays219 s c w
open Go.RowKit Go.Lib in
/-- internal/stringslite.Index (what strings.Index calls) AT A substr OF WHATEVER LENGTH: IT RETURNS 'Lib.index s substr'; the world is as it was. 'm': what internal/bytealg.MaxLen holds: whatever. (LAID: no walk: one application.) -/
theorem Tryd.stringslite_Index (s sub : ByteArray) (m : Int) (w : World) (hs : s.size < 4294967281) (hm : w.cell? ⟨0, 0, none⟩ = some (.int .i64 m)) :
    Calls Tryd.prog 73 #[.string s, .string sub] w fun e w' => e = .returned (.int .i64 (Lib.index s.data.toList sub.data.toList)) ∧ w' = w := Any.stringslite_Index Tryd.lays219 s sub m w hs hm
def Tryd.lays220_ren : Go.Shelf.Ren := ⟨fun | 220 => 56 | 219 => 73 | 217 => 82 | 225 => 83 | 224 => 84 | 267 => 85 | 266 => 97 | 314 => 98 | n => n, fun | 9 => 9 | 4 => 4 | 3 => 3 | 5 => 5 | 46 => 117 | 146 => 132 | 51 => 129 | n => n, fun | 1 => 0 | n => n⟩
theorem Tryd.lays220 : Go.Proofs.Lays.n220 Tryd.prog Tryd.lays220_ren := {
  mixed := by kernel_rfl
  f217 := Tryd.func82.trans (congrArg some (by kernel_rfl))
  f219 := Tryd.func73.trans (congrArg some (by kernel_rfl))
  f220 := Tryd.func56.trans (congrArg some (by kernel_rfl))
  f224 := Tryd.func84.trans (congrArg some (by kernel_rfl))
  f225 := Tryd.func83.trans (congrArg some (by kernel_rfl))
  f266 := Tryd.func97.trans (congrArg some (by kernel_rfl))
  f267 := Tryd.func85.trans (congrArg some (by kernel_rfl))
  f314 := Tryd.func98.trans (congrArg some (by kernel_rfl))
  t3 := Tryd.underlying3
  a3 := Tryd.isAgg3
  z3 := Tryd.sizeOf3
  v3 := Tryd.zeroValue3
  t4 := Tryd.underlying4
  a4 := Tryd.isAgg4
  z4 := Tryd.sizeOf4
  v4 := Tryd.zeroValue4
  t5 := Tryd.underlying5
  a5 := Tryd.isAgg5
  z5 := Tryd.sizeOf5
  v5 := Tryd.zeroValue5
  t9 := Tryd.underlying9
  a9 := Tryd.isAgg9
  z9 := Tryd.sizeOf9
  v9 := Tryd.zeroValue9
  t46 := Tryd.underlying117
  a46 := Tryd.isAgg117
  z46 := Tryd.sizeOf117
  v46 := Tryd.zeroValue117
  t51 := Tryd.underlying129
  a51 := Tryd.isAgg129
  z51 := Tryd.sizeOf129
  v51 := Tryd.zeroValue129
  t146 := Tryd.underlying132
  a146 := Tryd.isAgg132
  z146 := Tryd.sizeOf132
  v146 := Tryd.zeroValue132
  g1 := by kernel_rfl }
open Go.RowKit Go.Lib in
/-- internal/stringslite.Cut (what strings.Cut calls): IT RETURNS 'Lib.cut s sep'; the world is as it was but for the count of draws. (LAID: no walk: one application.) -/
theorem Tryd.stringslite_Cut (s sep : ByteArray) (m : Int) (w : World) (hs : s.size < 4294967281) (hm : w.cell? ⟨0, 0, none⟩ = some (.int .i64 m)) :
    Calls Tryd.prog 56 #[.string s, .string sep] w fun e w' => e = .returned (.tuple #[.string ⟨(Lib.cut s.data.toList sep.data.toList).1.toArray⟩, .string ⟨(Lib.cut s.data.toList sep.data.toList).2.1.toArray⟩, .bool (Lib.cut s.data.toList sep.data.toList).2.2]) ∧ ∃ n, w' = w.drewN n := Any.stringslite_Cut Tryd.lays220 s sep m w hs hm
def Tryd.lays145_ren : Go.Shelf.Ren := ⟨fun | 145 => 26 | 220 => 56 | 219 => 73 | 217 => 82 | 225 => 83 | 224 => 84 | 267 => 85 | 266 => 97 | 314 => 98 | n => n, fun | 9 => 9 | 4 => 4 | 59 => 61 | 3 => 3 | 5 => 5 | 46 => 117 | 146 => 132 | 51 => 129 | n => n, fun | 1 => 0 | n => n⟩
theorem Tryd.lays145 : Go.Proofs.Lays.n145 Tryd.prog Tryd.lays145_ren := {
  mixed := by kernel_rfl
  f145 := Tryd.func26.trans (congrArg some (by kernel_rfl))
  f217 := Tryd.func82.trans (congrArg some (by kernel_rfl))
  f219 := Tryd.func73.trans (congrArg some (by kernel_rfl))
  f220 := Tryd.func56.trans (congrArg some (by kernel_rfl))
  f224 := Tryd.func84.trans (congrArg some (by kernel_rfl))
  f225 := Tryd.func83.trans (congrArg some (by kernel_rfl))
  f266 := Tryd.func97.trans (congrArg some (by kernel_rfl))
  f267 := Tryd.func85.trans (congrArg some (by kernel_rfl))
  f314 := Tryd.func98.trans (congrArg some (by kernel_rfl))
  t3 := Tryd.underlying3
  a3 := Tryd.isAgg3
  z3 := Tryd.sizeOf3
  v3 := Tryd.zeroValue3
  t4 := Tryd.underlying4
  a4 := Tryd.isAgg4
  z4 := Tryd.sizeOf4
  v4 := Tryd.zeroValue4
  t5 := Tryd.underlying5
  a5 := Tryd.isAgg5
  z5 := Tryd.sizeOf5
  v5 := Tryd.zeroValue5
  t9 := Tryd.underlying9
  a9 := Tryd.isAgg9
  z9 := Tryd.sizeOf9
  v9 := Tryd.zeroValue9
  t46 := Tryd.underlying117
  a46 := Tryd.isAgg117
  z46 := Tryd.sizeOf117
  v46 := Tryd.zeroValue117
  t51 := Tryd.underlying129
  a51 := Tryd.isAgg129
  z51 := Tryd.sizeOf129
  v51 := Tryd.zeroValue129
  t59 := Tryd.underlying61
  a59 := Tryd.isAgg61
  z59 := Tryd.sizeOf61
  v59 := Tryd.zeroValue61
  t146 := Tryd.underlying132
  a146 := Tryd.isAgg132
  z146 := Tryd.sizeOf132
  v146 := Tryd.zeroValue132
  g1 := by kernel_rfl }
open Go.RowKit Go.Lib in
/-- strings.Cut: "Cut slices s around the first instance of sep, returning the text before and after sep. The found result reports whether sep appears in s. If sep does not appear in s, cut returns s, "", false.": IT RETURNS 'Lib.cut s sep'; the world is as it was but for the count of draws. (LAID: no walk: one application.) -/
theorem Tryd.strings_Cut (s sep : ByteArray) (m : Int) (w : World) (hs : s.size < 4294967281) (hm : w.cell? ⟨0, 0, none⟩ = some (.int .i64 m)) :
    Calls Tryd.prog 26 #[.string s, .string sep] w fun e w' => e = .returned (.tuple #[.string ⟨(Lib.cut s.data.toList sep.data.toList).1.toArray⟩, .string ⟨(Lib.cut s.data.toList sep.data.toList).2.1.toArray⟩, .bool (Lib.cut s.data.toList sep.data.toList).2.2]) ∧ ∃ n, w' = w.drewN n := Any.strings_Cut Tryd.lays145 s sep m w hs hm
def Tryd.laysM219_ren : Go.Shelf.Ren := ⟨fun | 219 => 73 | 217 => 82 | 225 => 83 | 224 => 84 | 267 => 85 | 266 => 97 | 314 => 98 | n => n, fun | 9 => 9 | 3 => 3 | 4 => 4 | 5 => 5 | 46 => 117 | 146 => 132 | 51 => 129 | n => n, fun | 1 => 0 | n => n⟩
theorem Tryd.laysM219 : Go.Proofs.LaysM.n219 Tryd.prog Tryd.laysM219_ren := {
  mixed := by kernel_rfl
  f217 := Tryd.func82.trans (congrArg some (by kernel_rfl))
  f219 := Tryd.func73.trans (congrArg some (by kernel_rfl))
  f224 := Tryd.func84.trans (congrArg some (by kernel_rfl))
  f225 := Tryd.func83.trans (congrArg some (by kernel_rfl))
  f266 := Tryd.func97.trans (congrArg some (by kernel_rfl))
  f267 := Tryd.func85.trans (congrArg some (by kernel_rfl))
  f314 := Tryd.func98.trans (congrArg some (by kernel_rfl))
  t3 := Tryd.underlying3
  a3 := Tryd.isAgg3
  z3 := Tryd.sizeOf3
  v3 := Tryd.zeroValue3
  t4 := Tryd.underlying4
  a4 := Tryd.isAgg4
  z4 := Tryd.sizeOf4
  v4 := Tryd.zeroValue4
  t5 := Tryd.underlying5
  a5 := Tryd.isAgg5
  z5 := Tryd.sizeOf5
  v5 := Tryd.zeroValue5
  t9 := Tryd.underlying9
  a9 := Tryd.isAgg9
  z9 := Tryd.sizeOf9
  v9 := Tryd.zeroValue9
  t46 := Tryd.underlying117
  a46 := Tryd.isAgg117
  z46 := Tryd.sizeOf117
  v46 := Tryd.zeroValue117
  t51 := Tryd.underlying129
  a51 := Tryd.isAgg129
  z51 := Tryd.sizeOf129
  v51 := Tryd.zeroValue129
  t146 := Tryd.underlying132
  a146 := Tryd.isAgg132
  z146 := Tryd.sizeOf132
  v146 := Tryd.zeroValue132
  g1 := by kernel_rfl
  i3 := by kernel_rfl
  i4 := by kernel_rfl
  i5 := by kernel_rfl
  i9 := by kernel_rfl
  i46 := by kernel_rfl
  i51 := by kernel_rfl
  i146 := by kernel_rfl
  m1 := by kernel_rfl
  s1_3 := fun w h => Go.Proofs.cell_of_shapedOpen_int (zero := #[.int .i64 0]) (t := 3) h (of_decide_eq_true (by kernel_rfl)) (by kernel_rfl) rfl (by kernel_rfl) (by kernel_rfl) Tryd.underlying3 }
open Go.RowKit Go.Lib in
theorem Tryd.stringslite_Index_shaped (s sub : ByteArray) (w : World) (h : w.ShapedOpen Tryd.prog) (hs : s.size < 4294967281) :
    Calls Tryd.prog 73 #[.string s, .string sub] w fun e w' => e = .returned (.int .i64 (Lib.index s.data.toList sub.data.toList)) ∧ w' = w := Any.stringslite_Index_shaped Tryd.laysM219 s sub w h hs
def Tryd.laysM220_ren : Go.Shelf.Ren := ⟨fun | 220 => 56 | 219 => 73 | 217 => 82 | 225 => 83 | 224 => 84 | 267 => 85 | 266 => 97 | 314 => 98 | n => n, fun | 9 => 9 | 4 => 4 | 3 => 3 | 5 => 5 | 46 => 117 | 146 => 132 | 51 => 129 | n => n, fun | 1 => 0 | n => n⟩
theorem Tryd.laysM220 : Go.Proofs.LaysM.n220 Tryd.prog Tryd.laysM220_ren := {
  mixed := by kernel_rfl
  f217 := Tryd.func82.trans (congrArg some (by kernel_rfl))
  f219 := Tryd.func73.trans (congrArg some (by kernel_rfl))
  f220 := Tryd.func56.trans (congrArg some (by kernel_rfl))
  f224 := Tryd.func84.trans (congrArg some (by kernel_rfl))
  f225 := Tryd.func83.trans (congrArg some (by kernel_rfl))
  f266 := Tryd.func97.trans (congrArg some (by kernel_rfl))
  f267 := Tryd.func85.trans (congrArg some (by kernel_rfl))
  f314 := Tryd.func98.trans (congrArg some (by kernel_rfl))
  t3 := Tryd.underlying3
  a3 := Tryd.isAgg3
  z3 := Tryd.sizeOf3
  v3 := Tryd.zeroValue3
  t4 := Tryd.underlying4
  a4 := Tryd.isAgg4
  z4 := Tryd.sizeOf4
  v4 := Tryd.zeroValue4
  t5 := Tryd.underlying5
  a5 := Tryd.isAgg5
  z5 := Tryd.sizeOf5
  v5 := Tryd.zeroValue5
  t9 := Tryd.underlying9
  a9 := Tryd.isAgg9
  z9 := Tryd.sizeOf9
  v9 := Tryd.zeroValue9
  t46 := Tryd.underlying117
  a46 := Tryd.isAgg117
  z46 := Tryd.sizeOf117
  v46 := Tryd.zeroValue117
  t51 := Tryd.underlying129
  a51 := Tryd.isAgg129
  z51 := Tryd.sizeOf129
  v51 := Tryd.zeroValue129
  t146 := Tryd.underlying132
  a146 := Tryd.isAgg132
  z146 := Tryd.sizeOf132
  v146 := Tryd.zeroValue132
  g1 := by kernel_rfl
  i3 := by kernel_rfl
  i4 := by kernel_rfl
  i5 := by kernel_rfl
  i9 := by kernel_rfl
  i46 := by kernel_rfl
  i51 := by kernel_rfl
  i146 := by kernel_rfl
  m1 := by kernel_rfl
  s1_3 := fun w h => Go.Proofs.cell_of_shapedOpen_int (zero := #[.int .i64 0]) (t := 3) h (of_decide_eq_true (by kernel_rfl)) (by kernel_rfl) rfl (by kernel_rfl) (by kernel_rfl) Tryd.underlying3 }
open Go.RowKit Go.Lib in
theorem Tryd.stringslite_Cut_shaped (s sep : ByteArray) (w : World) (h : w.ShapedOpen Tryd.prog) (hs : s.size < 4294967281) :
    Calls Tryd.prog 56 #[.string s, .string sep] w fun e w' => e = .returned (.tuple #[.string ⟨(Lib.cut s.data.toList sep.data.toList).1.toArray⟩, .string ⟨(Lib.cut s.data.toList sep.data.toList).2.1.toArray⟩, .bool (Lib.cut s.data.toList sep.data.toList).2.2]) ∧ ∃ n, w' = w.drewN n := Any.stringslite_Cut_shaped Tryd.laysM220 s sep w h hs
def Tryd.laysM145_ren : Go.Shelf.Ren := ⟨fun | 145 => 26 | 220 => 56 | 219 => 73 | 217 => 82 | 225 => 83 | 224 => 84 | 267 => 85 | 266 => 97 | 314 => 98 | n => n, fun | 9 => 9 | 4 => 4 | 59 => 61 | 3 => 3 | 5 => 5 | 46 => 117 | 146 => 132 | 51 => 129 | n => n, fun | 1 => 0 | n => n⟩
theorem Tryd.laysM145 : Go.Proofs.LaysM.n145 Tryd.prog Tryd.laysM145_ren := {
  mixed := by kernel_rfl
  f145 := Tryd.func26.trans (congrArg some (by kernel_rfl))
  f217 := Tryd.func82.trans (congrArg some (by kernel_rfl))
  f219 := Tryd.func73.trans (congrArg some (by kernel_rfl))
  f220 := Tryd.func56.trans (congrArg some (by kernel_rfl))
  f224 := Tryd.func84.trans (congrArg some (by kernel_rfl))
  f225 := Tryd.func83.trans (congrArg some (by kernel_rfl))
  f266 := Tryd.func97.trans (congrArg some (by kernel_rfl))
  f267 := Tryd.func85.trans (congrArg some (by kernel_rfl))
  f314 := Tryd.func98.trans (congrArg some (by kernel_rfl))
  t3 := Tryd.underlying3
  a3 := Tryd.isAgg3
  z3 := Tryd.sizeOf3
  v3 := Tryd.zeroValue3
  t4 := Tryd.underlying4
  a4 := Tryd.isAgg4
  z4 := Tryd.sizeOf4
  v4 := Tryd.zeroValue4
  t5 := Tryd.underlying5
  a5 := Tryd.isAgg5
  z5 := Tryd.sizeOf5
  v5 := Tryd.zeroValue5
  t9 := Tryd.underlying9
  a9 := Tryd.isAgg9
  z9 := Tryd.sizeOf9
  v9 := Tryd.zeroValue9
  t46 := Tryd.underlying117
  a46 := Tryd.isAgg117
  z46 := Tryd.sizeOf117
  v46 := Tryd.zeroValue117
  t51 := Tryd.underlying129
  a51 := Tryd.isAgg129
  z51 := Tryd.sizeOf129
  v51 := Tryd.zeroValue129
  t59 := Tryd.underlying61
  a59 := Tryd.isAgg61
  z59 := Tryd.sizeOf61
  v59 := Tryd.zeroValue61
  t146 := Tryd.underlying132
  a146 := Tryd.isAgg132
  z146 := Tryd.sizeOf132
  v146 := Tryd.zeroValue132
  g1 := by kernel_rfl
  i3 := by kernel_rfl
  i4 := by kernel_rfl
  i5 := by kernel_rfl
  i9 := by kernel_rfl
  i46 := by kernel_rfl
  i51 := by kernel_rfl
  i59 := by kernel_rfl
  i146 := by kernel_rfl
  m1 := by kernel_rfl
  s1_3 := fun w h => Go.Proofs.cell_of_shapedOpen_int (zero := #[.int .i64 0]) (t := 3) h (of_decide_eq_true (by kernel_rfl)) (by kernel_rfl) rfl (by kernel_rfl) (by kernel_rfl) Tryd.underlying3 }
open Go.RowKit Go.Lib in
theorem Tryd.strings_Cut_shaped (s sep : ByteArray) (w : World) (h : w.ShapedOpen Tryd.prog) (hs : s.size < 4294967281) :
    Calls Tryd.prog 26 #[.string s, .string sep] w fun e w' => e = .returned (.tuple #[.string ⟨(Lib.cut s.data.toList sep.data.toList).1.toArray⟩, .string ⟨(Lib.cut s.data.toList sep.data.toList).2.1.toArray⟩, .bool (Lib.cut s.data.toList sep.data.toList).2.2]) ∧ ∃ n, w' = w.drewN n := Any.strings_Cut_shaped Tryd.laysM145 s sep w h hs
end Go.Proofs

/- numbers as texts, at a seat whose rows lay the library's variables: what a world must hold for it (Laid), and strconv.FormatUint at base 10. -/
namespace Go.Proofs.YtbjpfnafhhbmaaaDoor
set_option linter.unusedVariables false
set_option linter.unusedSimpArgs false
open Go.RowKit Go.Sort Go.Lib
theorem var_below {P : Program} {w w' : World} {name : String} {r : Array Value} (h : w.var? P name = some r) (hb : Below w.heap.size w w') : w'.var? P name = some r := by
  unfold World.var? at *
  cases hg : P.globalNamed name with
  | none => simp [hg] at h
  | some g =>
    simp only [hg, Option.bind_some] at h ⊢
    have hlt : g < w.heap.size := by
      rcases Nat.lt_or_ge g w.heap.size with h' | h'
      · exact h'
      · rw [Array.getElem?_eq_none h'] at h; simp at h
    rw [hb.block g hlt]
    exact h
/-- What the library's variables hold. -/
structure Laid (w : World) : Prop where
  tab : Lib.TabIs Tryd.prog w "internal/strconv.uint64pow10" .u64 Lib.pow10Tab
  syn : ∃ tp p, w.var? Tryd.prog "strconv.ErrSyntax" = some #[.iface tp p]
  rng : ∃ tp p, w.var? Tryd.prog "strconv.ErrRange" = some #[.iface tp p]
  max : ∃ m, w.cell? ⟨0, 0, none⟩ = some (.int .i64 m)
theorem Laid.below {w w' : World} (h : Laid w) (hb : Below w.heap.size w w') : Laid w' := by
  obtain ⟨h1, ⟨t2, p2, h2⟩, ⟨t3, p3, h3⟩, m, h4⟩ := h
  exact ⟨Lib.tabBelow_of_tabIs h1 w' hb, ⟨t2, p2, var_below h2 hb⟩, ⟨t3, p3, var_below h3 hb⟩, m, (hb.cell (World.block_lt_of_cell? w _ h4)).trans h4⟩
def decS (u : Nat) : ByteArray := ⟨(Lib.decDigits u).toArray⟩
set_option maxHeartbeats 6400000 in
set_option maxRecDepth 100000 in
theorem fmtU_inner (u : Nat) (hu : u < 18446744073709551616) {w : World} (hl : Laid w) :
    Calls Tryd.prog 58 #[.int .u64 u, .int .i64 10] w fun e w' => e = .returned (.string (decS u)) ∧ Below w.heap.size w w' := by
  rcases Nat.lt_or_ge u 100 with hs | hs
  · have hd : (u : Int) < 100 := by omega
    have HS := Lib.hid (fun w => Tryd.internal_strconv_small u hs w)
    clear hs hl
    go_enter Tryd.func58, Tryd.ntmps58
    go_wp2_with fail
    refine (HS.out _).mono ?_
    rintro e w' ⟨rfl, rfl⟩
    go_wp2_with fail
    go_ret
    exact ⟨rfl, Below.refl _ _⟩
  · have hu1 : 1 ≤ u := by omega
    have hnd20 : Lib.nDigits u ≤ 20 := by have := Lib.numDigits_eq u hu1 hu; split at this <;> omega
    have hal : Tryd.prog.arrayLen 112 = 24 := by kernel_rfl
    have hsl : ∀ W, (Instr.sliceAt 112 (.pointer (some ⟨w.heap.size, 0, none⟩)) none (some (.int .i64 (Lib.nDigits u : Int))) none).run Tryd.prog W = .ok (.slice (some ⟨w.heap.size, 0, none⟩) (Lib.nDigits u) 24) W := fun W => by
      rw [run_sliceAt_array_h W 112 ⟨w.heap.size, 0, none⟩ (by kernel_rfl) .i64 (Lib.nDigits u : Int) (by omega) (by rw [hal]; omega)]
      go_simp
    have hH0 := Lib.holds_zero0 w 112 (Lib.nDigits u) (by omega)
    have hfmt := Tryd.internal_strconv_formatBase10 w.heap.size 0 24 u (Array.replicate (Lib.nDigits u) 0) (w.alloc (.cells Lib.zeros24 112)) hH0 (by rw [Array.size_replicate]; exact Lib.lt_pow_nDigits u) hu (by rw [Array.size_replicate]; omega)
    rw [Array.size_replicate] at hfmt
    have HH0 := Lib.hid hH0
    have HN := Lib.hid (Tryd.internal_strconv_numDigits u hu1 hu _ (Lib.tabIs_alloc hl.tab (.cells Lib.zeros24 112)))
    have HF := Lib.hid hfmt
    have hd : (100 : Int) ≤ (u : Int) := by omega
    clear hH0 hal hfmt hu1 hs hl
    go_enter Tryd.func58, Tryd.ntmps58
    go_wp2_with fail
    refine HN.out.mono ?_
    rintro e w' ⟨rfl, rfl⟩
    go_wp2_with fail
    refine HF.out.mono ?_
    rintro e w' ⟨rfl, k, v', dk, rfl, hF⟩
    have hcv : (convert 87 9 (.slice (some ⟨w.heap.size, 0, none⟩) (Lib.nDigits u) 24)).run Tryd.prog ((putRow (fun (b : UInt8) => Value.int .u8 (b.toNat : Int)) (w.alloc (.cells Lib.zeros24 112)) w.heap.size 0 dk).drewN k) = .ok (.string (decS u)) ((putRow (fun (b : UInt8) => Value.int .u8 (b.toNat : Int)) (w.alloc (.cells Lib.zeros24 112)) w.heap.size 0 dk).drewN k) := by
      have h := run_convert_bytes_back (P := Tryd.prog) ((putRow (fun (b : UInt8) => Value.int .u8 (b.toNat : Int)) (w.alloc (.cells Lib.zeros24 112)) w.heap.size 0 dk).drewN k) 87 9 5 ⟨w.heap.size, 0, none⟩ 24 (Lib.decDigits u) Tryd.underlying87 Tryd.underlying5 Tryd.underlying9 (fun j hj => by
        rw [Lib.row_is_numeral hF j hj, Lib.add_plain, World.cell?_drewN]
        exact cell?_putRow (fun (b : UInt8) => Value.int .u8 (b.toNat : Int)) _ w.heap.size 0 _ dk HH0.out (by rw [hF.size, Array.size_replicate]) j (by rw [hF.size]; rw [Lib.decDigits_length] at hj; exact hj))
      rw [Lib.decDigits_length] at h
      exact h
    have HE := Lib.hid (show Below w.heap.size w ((putRow (fun (b : UInt8) => Value.int .u8 (b.toNat : Int)) (w.alloc (.cells Lib.zeros24 112)) w.heap.size 0 dk).drewN k) by
      obtain ⟨os, e⟩ := Lib.fin_at w (.cells Lib.zeros24 112) dk k 0
      rw [e]
      exact Lib.below_grow _ w (Nat.le_refl _) k os)
    go_wp2_with fail
    go_ret
    exact ⟨rfl, HE.out⟩
end Go.Proofs.YtbjpfnafhhbmaaaDoor

/- stream's numbers and identifiers as texts, and back. -/
namespace Go.Proofs.YtbjpfnafhhbmaaaDoor
set_option linter.unusedVariables false
set_option linter.unusedSimpArgs false
open Go.RowKit
set_option maxHeartbeats 800000 in
set_option maxRecDepth 100000 in
theorem fmtU (u : Nat) (hu : u < 18446744073709551616) {w : World} (hl : Laid w) :
    Calls Tryd.prog 29 #[.int .u64 u, .int .i64 10] w fun e w' => e = .returned (.string (decS u)) ∧ Below w.heap.size w w' := by
  have H := Lib.hid (fmtU_inner u hu hl)
  clear hl
  go_enter Tryd.func29, Tryd.ntmps29
  go_wp2_with fail
  refine H.out.mono ?_
  rintro e w' ⟨rfl, hb⟩
  have HB := Lib.hid hb
  clear hb
  go_wp2_with fail
  go_ret
  exact ⟨rfl, HB.out⟩
/-- What 'number' says of a text. -/
def numS (s : ByteArray) : Nat × Bool :=
  match Lib.parseUintB 64 s.data.toList with
  | .ok u => (u, (decS u).toList == s.toList)
  | .range => (18446744073709551615, false)
  | _ => (0, false)
theorem parseUintM_lt : ∀ (l : List UInt8) (acc u : Nat), acc < 18446744073709551616 → Lib.parseUintM 18446744073709551615 acc l = .ok u → u < 18446744073709551616
  | [], acc, u, h, e => by simp only [Lib.parseUintM] at e; cases e; exact h
  | c :: r, acc, u, h, e => by
    simp only [Lib.parseUintM] at e
    split at e
    · split at e
      · cases e
      · split at e
        · cases e
        · exact parseUintM_lt r _ u (by omega) e
    · cases e
theorem parseU_lt {l : List UInt8} {u : Nat} (h : Lib.parseUintB 64 l = .ok u) : u < 18446744073709551616 := by
  unfold Lib.parseUintB at h
  split at h
  · cases h
  · exact parseUintM_lt l 0 u (by omega) h
theorem numS_lt (s : ByteArray) : (numS s).1 < 18446744073709551616 := by
  unfold numS
  split
  · next u h => exact parseU_lt h
  · decide
  · decide
set_option maxHeartbeats 1600000 in
set_option maxRecDepth 100000 in
theorem number_any (s : ByteArray) (hs : s.size ≤ 281474976710656) {w : World} (hl : Laid w) :
    Calls Tryd.prog 27 #[.string s] w fun e w' => e = .returned (.tuple #[.int .u64 (numS s).1, .bool (numS s).2]) ∧ Below w.heap.size w w' := by
  cases hp : Lib.parseUintB 64 s.data.toList with
  | ok u =>
    have hu := parseU_lt hp
    have he : numS s = (u, (decS u).toList == s.toList) := by unfold numS; rw [hp]
    rw [he]
    have HP := Lib.hid (Tryd.strconv_ParseUint_10_at64_ok s (by omega) u hp w)
    have HF := Lib.hid (fun w' (hb : Below w.heap.size w w') => fmtU u hu (hl.below hb))
    obtain ⟨t, ht⟩ : ∃ t, decS u = t := ⟨_, rfl⟩
    rw [ht] at HF ⊢
    clear hl he hp ht
    go_enter Tryd.func27, Tryd.ntmps27
    go_wp2_with fail
    refine HP.out.mono ?_
    rintro e w1 ⟨rfl, hw1⟩
    have HB1 := Lib.hid (show Below w.heap.size w w1 by
      rcases hw1 with rfl | rfl
      · exact Below.refl _ _
      · exact Lib.bytesWorld_below _ _ _)
    clear hw1
    go_wp2_with fail
    refine (HF.out _ HB1.out).mono ?_
    rintro e w2 ⟨rfl, hb⟩
    have HB2 := Lib.hid (HB1.out.trans (hb.mono HB1.out.size))
    clear hb
    go_wp2_with fail
    go_ret2
    exact ⟨rfl, HB2.out⟩
  | range =>
    have he : numS s = (18446744073709551615, false) := by unfold numS; rw [hp]
    rw [he]
    obtain ⟨tp, p, hv⟩ := hl.rng
    have HP := Lib.hid (Tryd.strconv_ParseUint_10_at64_range_var s hs hp tp p w hv)
    clear hl he hp hv
    go_enter Tryd.func27, Tryd.ntmps27
    go_wp2_with fail
    refine HP.out.mono ?_
    rintro e w1 ⟨N, rfl, _, _, hb⟩
    have HB1 := Lib.hid hb
    clear hb
    go_wp2_with fail
    go_ret2
    exact ⟨rfl, HB1.out⟩
  | _ =>
    have he : numS s = (0, false) := by unfold numS; rw [hp]
    rw [he]
    obtain ⟨tp, p, hv⟩ := hl.syn
    have HP := Lib.hid (Tryd.strconv_ParseUint_10_at64_syntax_var s hs hp tp p w hv)
    clear hl he hp hv
    go_enter Tryd.func27, Tryd.ntmps27
    go_wp2_with fail
    refine HP.out.mono ?_
    rintro e w1 ⟨N, rfl, _, _, hb⟩
    have HB1 := Lib.hid hb
    clear hb
    go_wp2_with fail
    go_ret2
    exact ⟨rfl, HB1.out⟩
end Go.Proofs.YtbjpfnafhhbmaaaDoor

/- stream.ID: the identifier of a text. -/
namespace Go.Proofs.YtbjpfnafhhbmaaaDoor
set_option linter.unusedVariables false
set_option linter.unusedSimpArgs false
open Go.RowKit
def cutS (s : ByteArray) : ByteArray × ByteArray × Bool := (⟨(Lib.cut s.data.toList [45]).1.toArray⟩, ⟨(Lib.cut s.data.toList [45]).2.1.toArray⟩, (Lib.cut s.data.toList [45]).2.2)
/-- What ID says of a text. -/
def idS (s : ByteArray) (seq : Nat) : (Nat × Nat) × Bool :=
  if (numS (cutS s).1).2 && (!(cutS s).2.2 || (numS (cutS s).2.1).2) then (((numS (cutS s).1).1, if (cutS s).2.2 then (numS (cutS s).2.1).1 else seq), true) else ((0, 0), false)
theorem cut_size (s : ByteArray) : (cutS s).1.size ≤ s.size ∧ (cutS s).2.1.size ≤ s.size := by
  unfold cutS Lib.cut
  have e : s.size = s.data.toList.length := Array.length_toList.symm
  split
  · simp only [ByteArray.size, List.size_toArray, List.length_take, List.length_drop]
    simp only [ByteArray.size] at e
    omega
  · simp only [ByteArray.size, List.size_toArray, List.length_nil]
    simp only [ByteArray.size] at e
    omega
set_option maxHeartbeats 3200000 in
set_option maxRecDepth 100000 in
theorem id_any (s : ByteArray) (seq : Nat) (hs : s.size < 4294967281) (hq : seq < 18446744073709551616) {w : World} (hl : Laid w) :
    Calls Tryd.prog 9 #[.string s, .int .u64 seq] w fun e w' => e = .returned (.tuple #[.agg #[.int .u64 (idS s seq).1.1, .int .u64 (idS s seq).1.2], .bool (idS s seq).2]) ∧ Below w.heap.size w w' := by
  obtain ⟨w1, hw1⟩ : ∃ w1, w1 = w.alloc (.cells #[.int .u64 0, .int .u64 0] 24) := ⟨_, rfl⟩
  have hb1 : Below w.heap.size w w1 := by rw [hw1]; exact (Below.refl _ _).alloc (Nat.le_refl _) _
  have hh1 : w1.heap[w.heap.size]? = some (.cells #[.int .u64 0, .int .u64 0] 24 (0, 0)) := by rw [hw1]; exact heap_new _ _
  have hlt1 := heap_lt hh1
  have hl1 := hl.below hb1
  obtain ⟨mx, hmx⟩ := hl1.max
  obtain ⟨c1, c2, both⟩ : True ∧ True ∧ True := ⟨trivial, trivial, trivial⟩
  have hsz := cut_size s
  have hcut := Tryd.strings_Cut s ⟨#[45]⟩ mx w1 hs hmx
  obtain ⟨a, ha⟩ : ∃ a, (cutS s).1 = a := ⟨_, rfl⟩
  obtain ⟨b, hbb⟩ : ∃ b, (cutS s).2.1 = b := ⟨_, rfl⟩
  obtain ⟨k, hk⟩ : ∃ k, (cutS s).2.2 = k := ⟨_, rfl⟩
  have hcut' : Calls Tryd.prog 26 #[.string s, .string ⟨#[45]⟩] w1 fun e w' => e = .returned (.tuple #[.string a, .string b, .bool k]) ∧ ∃ n, w' = w1.drewN n := by
    rw [← ha, ← hbb, ← hk]; exact hcut
  rw [ha, hbb] at hsz
  have hid : idS s seq = if (numS a).2 && (!k || (numS b).2) then (((numS a).1, if k then (numS b).1 else seq), true) else ((0, 0), false) := by
    unfold idS; rw [ha, hbb, hk]
  have HA := Lib.hid (fun w' (hb : Below w1.heap.size w1 w') => number_any a (by omega) (hl1.below hb))
  have HBn := Lib.hid (fun w' (hb : Below w1.heap.size w1 w') => number_any b (by omega) (hl1.below hb))
  have HC := Lib.hid hcut'
  obtain ⟨am, ham⟩ : ∃ am, (numS a).1 = am := ⟨_, rfl⟩
  obtain ⟨bm, hbm⟩ : ∃ bm, (numS b).1 = bm := ⟨_, rfl⟩
  obtain ⟨aok, haok⟩ : ∃ aok, (numS a).2 = aok := ⟨_, rfl⟩
  obtain ⟨bok, hbok⟩ : ∃ bok, (numS b).2 = bok := ⟨_, rfl⟩
  rw [ham, haok] at HA
  rw [hbm, hbok] at HBn
  rw [hid, ham, hbm, haok, hbok]
  have HW := Lib.hid hw1
  have HB1 := Lib.hid hb1
  have HH := Lib.hid hh1
  have HEnd : Hid (∀ w' x y, Below w1.heap.size w1 w' → (((w'.setCell ⟨w.heap.size, 0, none⟩ x).setCell ⟨w.heap.size, 1, none⟩ y).cell? ⟨w.heap.size, 0, none⟩ = some x ∧ ((w'.setCell ⟨w.heap.size, 0, none⟩ x).setCell ⟨w.heap.size, 1, none⟩ y).cell? ⟨w.heap.size, 1, none⟩ = some y) ∧ Below w.heap.size w ((w'.setCell ⟨w.heap.size, 0, none⟩ x).setCell ⟨w.heap.size, 1, none⟩ y)) := Lib.hid fun w' x y hb => by
    have h0 := (hb.block _ hlt1).trans hh1
    have h1 := setCell_head h0 0 x
    have h2 := setCell_head h1 1 y
    have bb := hb1.trans (hb.mono hb1.size)
    exact ⟨⟨cell_in h2 rfl, cell_in h2 rfl⟩, (bb.setCell (Nat.le_refl _) _).setCell (Nat.le_refl _) _⟩
  have HOld : Hid (∀ w', Below w1.heap.size w1 w' → (w'.cell? ⟨w.heap.size, 0, none⟩ = some (.int .u64 0) ∧ w'.frozen? ⟨w.heap.size, 0, none⟩ = false) ∧ ∀ x, (w'.setCell ⟨w.heap.size, 0, none⟩ x).cell? ⟨w.heap.size, 1, none⟩ = some (.int .u64 0) ∧ (w'.setCell ⟨w.heap.size, 0, none⟩ x).frozen? ⟨w.heap.size, 1, none⟩ = false) := Lib.hid fun w' hb => by
    have h0 := (hb.block _ hlt1).trans hh1
    exact ⟨⟨cell_in h0 rfl, frozen_in h0 0⟩, fun x => ⟨cell_in (setCell_head h0 0 x) rfl, frozen_in (setCell_head h0 0 x) 1⟩⟩
  clear hl hw1 hb1 hh1 hl1 hmx hsz hcut hcut' ha hbb hk hid ham hbm haok hbok hs hq hlt1 c1 c2 both
  go_enter Tryd.func9, Tryd.ntmps9
  go_wp2_with fail
  rw [← HW.out]
  refine HC.out.mono ?_
  rintro e w2 ⟨rfl, n, hw2⟩
  have HB2 := Lib.hid (show Below w1.heap.size w1 w2 by rw [hw2]; exact belowN (Below.refl _ _) n)
  clear hw2
  go_wp2_with fail
  refine (HA.out w2 HB2.out).mono ?_
  rintro e w3 ⟨rfl, b3⟩
  have HB3 := Lib.hid (HB2.out.trans (b3.mono HB2.out.size))
  clear b3
  cases k
  case' false =>
    cases aok
    all_goals
      obtain ⟨⟨q0, f0⟩, hq1⟩ := HOld.out w3 HB3.out
      go_wp2_with fail
      first
      | exact bodyPost_ret (v := .tuple #[.agg #[.int .u64 0, .int .u64 0], .bool false]) (by have h := (HEnd.out w3 (.int .u64 0) (.int .u64 0) HB3.out).1; simp [results, Tryd.results9, go_sem, h.1, h.2]) rfl ⟨rfl, (HEnd.out w3 _ _ HB3.out).2⟩
      | exact bodyPost_ret (v := .tuple #[.agg #[.int .u64 am, .int .u64 seq], .bool true]) (by have h := (HEnd.out w3 (.int .u64 am) (.int .u64 seq) HB3.out).1; simp [results, Tryd.results9, go_sem, h.1, h.2]) rfl ⟨rfl, (HEnd.out w3 _ _ HB3.out).2⟩
  case' true =>
    go_wp2_with fail
    refine (HBn.out w3 HB3.out).mono ?_
    rintro e w4 ⟨rfl, b4⟩
    have HB4 := Lib.hid (HB3.out.trans (b4.mono HB3.out.size))
    clear b4
    cases aok <;> cases bok
    all_goals
      obtain ⟨⟨q0, f0⟩, hq1⟩ := HOld.out w4 HB4.out
      go_wp2_with fail
      first
      | exact bodyPost_ret (v := .tuple #[.agg #[.int .u64 0, .int .u64 0], .bool false]) (by have h := (HEnd.out w4 (.int .u64 0) (.int .u64 0) HB4.out).1; simp [results, Tryd.results9, go_sem, h.1, h.2]) rfl ⟨rfl, (HEnd.out w4 _ _ HB4.out).2⟩
      | exact bodyPost_ret (v := .tuple #[.agg #[.int .u64 am, .int .u64 bm], .bool true]) (by have h := (HEnd.out w4 (.int .u64 am) (.int .u64 bm) HB4.out).1; simp [results, Tryd.results9, go_sem, h.1, h.2]) rfl ⟨rfl, (HEnd.out w4 _ _ HB4.out).2⟩
end Go.Proofs.YtbjpfnafhhbmaaaDoor

/- stream.IDText: an identifier as a text. -/
namespace Go.Proofs.YtbjpfnafhhbmaaaDoor
set_option linter.unusedVariables false
set_option linter.unusedSimpArgs false
open Go.RowKit
def idT (m q : Nat) : ByteArray := decS m ++ ⟨#[45]⟩ ++ decS q
theorem decS_size (u : Nat) (hu : u < 18446744073709551616) : (decS u).size ≤ 20 := by
  have e : (decS u).size = (Lib.decDigits u).length := by simp [decS, ByteArray.size]
  rw [e, Lib.decDigits_length]
  rcases Nat.eq_zero_or_pos u with h | h
  · subst h; rw [Lib.nDigits_small (by omega)]; omega
  · have := Lib.numDigits_eq u h hu; split at this <;> omega
set_option maxHeartbeats 3200000 in
set_option maxRecDepth 100000 in
theorem idText_any (m q : Nat) (hm : m < 18446744073709551616) (hq : q < 18446744073709551616) {w : World} (hl : Laid w) :
    Calls Tryd.prog 11 #[.agg #[.int .u64 m, .int .u64 q]] w fun e w' => e = .returned (.string (idT m q)) ∧ Below w.heap.size w w' := by
  obtain ⟨w1, hw1⟩ : ∃ w1, w1 = w.alloc (.cells #[.int .u64 m, .int .u64 q] 24) := ⟨_, rfl⟩
  have hb1 : Below w.heap.size w w1 := by rw [hw1]; exact (Below.refl _ _).alloc (Nat.le_refl _) _
  have hh1 : w1.heap[w.heap.size]? = some (.cells #[.int .u64 m, .int .u64 q] 24 (0, 0)) := by rw [hw1]; exact heap_new _ _
  have hlt1 := heap_lt hh1
  have hl1 := hl.below hb1
  have HC := Lib.hid (show ∀ w', Below w1.heap.size w1 w' → w'.cell? ⟨w.heap.size, 0, none⟩ = some (.int .u64 m) ∧ w'.cell? ⟨w.heap.size, 1, none⟩ = some (.int .u64 q) from fun w' hb =>
    ⟨cell_in ((hb.block _ hlt1).trans hh1) rfl, cell_in ((hb.block _ hlt1).trans hh1) rfl⟩)
  have HM := Lib.hid (fun w' (hb : Below w1.heap.size w1 w') => fmtU m hm (hl1.below hb))
  have HQ := Lib.hid (fun w' (hb : Below w1.heap.size w1 w') => fmtU q hq (hl1.below hb))
  have hs1 := decS_size m hm
  have hs2 := decS_size q hq
  obtain ⟨a, ha⟩ : ∃ a, decS m = a := ⟨_, rfl⟩
  obtain ⟨b, hb⟩ : ∃ b, decS q = b := ⟨_, rfl⟩
  have hid : idT m q = a ++ ⟨#[45]⟩ ++ b := by unfold idT; rw [ha, hb]
  rw [ha] at HM hs1
  rw [hb] at HQ hs2
  rw [hid]
  obtain ⟨c0, c1⟩ := HC.out w1 (Below.refl _ _)
  obtain ⟨X1, f, hX1, hf, hF⟩ := classOf (fun x => x.cell? ⟨w.heap.size, 0, none⟩ = some (.int .u64 m) ∧ x.cell? ⟨w.heap.size, 1, none⟩ = some (.int .u64 q)) (w := w1) ⟨c0, c1⟩
  have f1 := fun x => (hf x).1
  have f2 := fun x => (hf x).2
  have HF1 := Lib.hid hF
  have HFa := Lib.hid (hF w1.drew ⟨c0, c1⟩)
  have HW := Lib.hid hw1
  have HB1 := Lib.hid hb1
  clear hF hf hl hw1 hb1 hh1 hl1 ha hb hid hm hq hlt1 c0 c1
  go_enter Tryd.func11, Tryd.ntmps11
  go_wp2_with fail
  rw [← HW.out]
  refine wp_region_text ⟨[2, 6], [3, 7, 8], 6⟩ (fun w' => ∃ x : X1, w' = f x) (by kernel_rfl) (by kernel_rfl) HFa.out ?_
  refine wpC_seg false (HFa.out) 2 0 _ _ (by rfl) (by rfl) ?_
  simp only [List.take_succ_cons, List.take_zero, List.drop_succ_cons, List.drop_zero, Bool.false_eq_true, if_false, Nat.zero_add, Nat.reduceAdd]
  repeat (go_big_quiet_step (fail))
  refine wpQuiet_nil ?_
  refine wpC_loud (by rfl) (by rfl) fun K hK => ?_
  go_wp2_with fail
  refine (HM.out _ (belowN (Below.refl _ _) 1)).mono ?_
  rintro e w2 ⟨rfl, b2⟩
  have HB2 := Lib.hid ((belowN (Below.refl w1.heap.size w1) 1).trans b2)
  have HF2 := Lib.hid (HF1.out w2 (HC.out w2 HB2.out))
  refine hK _ _ (fun _ => HF2.out) ?_
  clear hK b2
  refine wpC_seg true (HF2.out) 1 3 _ _ (by rfl) (by rfl) ?_
  simp only [List.take_succ_cons, List.take_zero, List.drop_succ_cons, List.drop_zero, if_true, Nat.zero_add, Nat.reduceAdd]
  repeat (go_big_quiet_step (fail))
  refine wpQuiet_nil ?_
  refine wpC_seg false (HF2.out) 2 4 _ _ (by rfl) (by rfl) ?_
  simp only [List.take_succ_cons, List.take_zero, List.drop_succ_cons, List.drop_zero, Bool.false_eq_true, if_false, Nat.zero_add, Nat.reduceAdd]
  repeat (go_big_quiet_step (fail))
  refine wpQuiet_nil ?_
  refine wpC_loud (by rfl) (by rfl) fun K hK => ?_
  go_wp2_with fail
  refine (HQ.out _ HB2.out).mono ?_
  rintro e w3 ⟨rfl, b3⟩
  have HB3 := Lib.hid (HB1.out.trans ((HB2.out.trans (b3.mono HB2.out.size)).mono HB1.out.size))
  refine hK _ _ (fun h => absurd h (by decide)) ?_
  clear hK b3
  refine wpC_segD 2 7 _ _ (by rfl) (by rfl) ?_
  simp only [List.take_succ_cons, List.take_zero, List.drop_succ_cons, List.drop_zero, if_true, Nat.zero_add, Nat.reduceAdd]
  repeat (go_big_quiet_step (fail))
  refine wpQuiet_nil ?_
  refine wpC_nil ?_
  clear f1 f2 hX1 HF1 HFa HF2 f
  go_wp2_with fail
  go_ret
  exact ⟨rfl, HB3.out⟩
end Go.Proofs.YtbjpfnafhhbmaaaDoor

/- identifiers as texts: plain law. -/
namespace Go.Proofs.YtbjpfnafhhbmaaaDoor
set_option linter.unusedVariables false
set_option linter.unusedSimpArgs false
open Go.RowKit
theorem index_dash : ∀ (x y : List UInt8), (45 : UInt8) ∉ x → Lib.index (x ++ 45 :: y) [45] = x.length
  | [], y, _ => by simp [Lib.index]
  | b :: x, y, h => by
    have h1 : (45 : UInt8) ≠ b := fun e => h (by simp [e])
    have ih := index_dash x y (fun hm => h (by simp [hm]))
    have hp : List.isPrefixOf [(45 : UInt8)] (b :: (x ++ 45 :: y)) = false := by simp [List.isPrefixOf, h1]
    rw [List.cons_append, Lib.index, hp, ih]
    simp
theorem index_nodash : ∀ (x : List UInt8), (45 : UInt8) ∉ x → Lib.index x [45] = -1
  | [], _ => by simp [Lib.index]
  | b :: x, h => by
    have h1 : (45 : UInt8) ≠ b := fun e => h (by simp [e])
    have ih := index_nodash x (fun hm => h (by simp [hm]))
    have hp : List.isPrefixOf [(45 : UInt8)] (b :: x) = false := by simp [List.isPrefixOf, h1]
    rw [Lib.index, hp, ih]
    simp
theorem cut_dash (x y : List UInt8) (h : (45 : UInt8) ∉ x) : Lib.cut (x ++ 45 :: y) [45] = (x, y, true) := by
  unfold Lib.cut
  rw [index_dash x y h, if_pos (by omega)]
  simp
theorem cut_nodash (x : List UInt8) (h : (45 : UInt8) ∉ x) : Lib.cut x [45] = (x, [], false) := by
  unfold Lib.cut
  rw [index_nodash x h, if_neg (by omega)]
theorem dash_split : ∀ (l : List UInt8), (45 : UInt8) ∉ l ∨ ∃ x y, (45 : UInt8) ∉ x ∧ l = x ++ 45 :: y
  | [] => .inl (by simp)
  | b :: l => by
    by_cases hb : b = 45
    · exact .inr ⟨[], l, by simp, by simp [hb]⟩
    · rcases dash_split l with h | ⟨x, y, h, e⟩
      · exact .inl (by simp [h]; exact fun e => hb e.symm)
      · exact .inr ⟨b :: x, y, by simp [h]; exact fun e => hb e.symm, by simp [e]⟩
theorem parse_append (M : Nat) : ∀ (l : List UInt8) (r : List UInt8) (acc : Nat), Lib.parseUintM M acc (l ++ r) = match Lib.parseUintM M acc l with | .ok v => Lib.parseUintM M v r | e => e
  | [], r, acc => by simp [Lib.parseUintM]
  | c :: l, r, acc => by
    simp only [List.cons_append, Lib.parseUintM]
    split
    · split
      · rfl
      · split
        · rfl
        · exact parse_append M l r _
    · rfl
theorem digit_nat (d : Nat) (h : d < 10) : (UInt8.ofNat (48 + d)).toNat = 48 + d := by
  simp only [UInt8.toNat_ofNat']; omega
theorem parse_dec (u : Nat) (hu : u < 18446744073709551616) : Lib.parseUintM 18446744073709551615 0 (Lib.decDigits u) = .ok u := by
  induction u using Nat.strongRecOn with
  | _ u ih =>
    by_cases h : u < 10
    · rw [Lib.decDigits_one h]
      simp only [Lib.parseUintM]
      rw [digit_nat u h]
      simp only [show 48 ≤ 48 + u ∧ 48 + u ≤ 57 from by omega, and_self, if_true]
      rw [if_neg (by omega), if_neg (by omega)]
      congr 1; omega
    · have e : Lib.decDigits u = Lib.decDigits (u / 10) ++ [UInt8.ofNat (48 + u % 10)] := by rw [Lib.decDigits, dif_neg h]
      rw [e, parse_append, ih (u / 10) (by omega) (by omega)]
      simp only [Lib.parseUintM]
      rw [digit_nat (u % 10) (by omega)]
      simp only [show 48 ≤ 48 + u % 10 ∧ 48 + u % 10 ≤ 57 from by omega, and_self, if_true]
      rw [if_neg (by omega), if_neg (by omega)]
      congr 1; omega
theorem dec_nodash (u : Nat) : (45 : UInt8) ∉ Lib.decDigits u ∧ Lib.decDigits u ≠ [] := by
  induction u using Nat.strongRecOn with
  | _ u ih =>
    have hd : ∀ d, d < 10 → (45 : UInt8) ≠ UInt8.ofNat (48 + d) := fun d hd e => by
      have := congrArg UInt8.toNat e
      rw [digit_nat d hd] at this
      simp at this
      omega
    by_cases h : u < 10
    · rw [Lib.decDigits_one h]
      exact ⟨fun hm => hd u h (List.mem_singleton.1 hm), by simp⟩
    · have e : Lib.decDigits u = Lib.decDigits (u / 10) ++ [UInt8.ofNat (48 + u % 10)] := by rw [Lib.decDigits, dif_neg h]
      rw [e]
      exact ⟨fun hm => (List.mem_append.1 hm).elim (ih (u / 10) (by omega)).1 fun h2 => hd _ (Nat.mod_lt _ (by omega)) (List.mem_singleton.1 h2), by simp⟩
theorem numS_dec (u : Nat) (hu : u < 18446744073709551616) : numS (decS u) = (u, true) := by
  have h : Lib.parseUintB 64 (decS u).data.toList = .ok u := by
    show Lib.parseUintB 64 (Lib.decDigits u) = .ok u
    unfold Lib.parseUintB
    rw [if_neg (dec_nodash u).2]
    exact parse_dec u hu
  unfold numS
  rw [h]
  simp
theorem idT_list (m q : Nat) : (idT m q).data.toList = Lib.decDigits m ++ 45 :: Lib.decDigits q := by
  simp [idT, decS, ByteArray.data_append]
/-- An identifier's text is read as it. -/
theorem idS_idT (m q seq : Nat) (hm : m < 18446744073709551616) (hq : q < 18446744073709551616) : idS (idT m q) seq = ((m, q), true) := by
  have hc : cutS (idT m q) = (decS m, decS q, true) := by
    unfold cutS
    rw [idT_list, cut_dash _ _ (dec_nodash m).1]
    rfl
  unfold idS
  rw [hc]
  simp [numS_dec m hm, numS_dec q hq]
theorem numS_text {s : ByteArray} (h : (numS s).2 = true) : decS (numS s).1 = s := by
  unfold numS at *
  cases hp : Lib.parseUintB 64 s.data.toList with
  | ok u =>
    rw [hp] at h
    simp only [beq_iff_eq] at h
    rw [ByteArray.toList_eq, ByteArray.toList_eq] at h
    exact ByteArray.ext (Array.toList_inj.1 h)
  | range => rw [hp] at h; cases h
  | _ => rw [hp] at h; cases h
/-- What is read of a text is told as it, or as it with "-0" behind it. -/
theorem idT_idS {s : ByteArray} (h : (idS s 0).2 = true) : idT (idS s 0).1.1 (idS s 0).1.2 = s ∨ idT (idS s 0).1.1 (idS s 0).1.2 = s ++ ⟨#[45, 48]⟩ := by
  have hc : ((numS (cutS s).1).2 && (!(cutS s).2.2 || (numS (cutS s).2.1).2)) = true := by
    unfold idS at h
    split at h
    · next e => exact e
    · cases h
  have e : idS s 0 = (((numS (cutS s).1).1, if (cutS s).2.2 then (numS (cutS s).2.1).1 else 0), true) := by unfold idS; rw [if_pos hc]
  rw [e]
  have h1 := numS_text ((Bool.and_eq_true _ _ ▸ hc).1)
  rcases dash_split s.data.toList with hn | ⟨x, y, hn, hs⟩
  · right
    have hcs : cutS s = (s, ⟨#[]⟩, false) := by
      unfold cutS
      rw [cut_nodash _ hn]
    rw [hcs] at h1 ⊢
    simp only at h1 ⊢
    unfold idT
    rw [h1]
    apply ByteArray.ext
    apply Array.toList_inj.1
    simp [decS, ByteArray.data_append, Lib.decDigits_one]
  · left
    have hcs : cutS s = (⟨x.toArray⟩, ⟨y.toArray⟩, true) := by
      unfold cutS
      rw [hs, cut_dash x y hn]
    rw [hcs] at h1 hc ⊢
    simp only [Bool.not_true, Bool.false_or, Bool.and_eq_true] at hc
    have h2 := numS_text hc.2
    simp only [if_true] at h1 h2 ⊢
    unfold idT
    rw [h1, h2]
    apply ByteArray.ext
    apply Array.toList_inj.1
    rw [hs]
    simp [ByteArray.data_append]
theorem idS_no {s : ByteArray} {seq : Nat} (h : (idS s seq).2 = false) : (idS s seq).1 = (0, 0) := by
  unfold idS at *
  split at h
  · cases h
  · next e => rw [if_neg e]
end Go.Proofs.YtbjpfnafhhbmaaaDoor

/- stream: the object in memory; New, there, below, Len. -/
namespace Go.Proofs.YtbjpfnafhhbmaaaDoor
set_option linter.unusedVariables false
set_option linter.unusedSimpArgs false
open Go.RowKit Sad
def lessN (a b : Nat × Nat) : Bool := decide (a.1 < b.1 ∨ (a.1 = b.1 ∧ a.2 < b.2))
theorem treeLen {w : World} {p : Nat} {G : Nat → Prop} {T : Option RT} {n : Nat} (h : TreeF w p G T n) : Calls Tryd.prog 52 #[.pointer (some ⟨p, 0, none⟩)] w fun e w' => e = .returned (.int .i64 n) ∧ w = w' := by
  obtain ⟨v, h1, _⟩ := h.head
  exact radLen h1
/-- A stream's object: its block, the tree's, the tree's blocks, what the tree holds, how many, the last identifier. -/
structure StmF (w : World) (s p : Nat) (G : Nat → Prop) (T : Option RT) (n ms q : Nat) : Prop where
  head : w.heap[s]? = some (.cells #[ptrV p, .int .u64 ms, .int .u64 q] 53 (0, 0))
  tree : TreeF w p G T n
  own : ¬ G s
  ms_lt : ms < 18446744073709551616
  q_lt : q < 18446744073709551616
theorem StmF.below {w w' : World} {s p : Nat} {G : Nat → Prop} {T : Option RT} {n ms q : Nat} (h : StmF w s p G T n ms q) (hb : Below w.heap.size w w') : StmF w' s p G T n ms q :=
  ⟨(hb.block _ (heap_lt h.head)).trans h.head, h.tree.below hb, h.own, h.ms_lt, h.q_lt⟩
set_option maxHeartbeats 800000 in
set_option maxRecDepth 100000 in
theorem stmNew (w : World) : Calls Tryd.prog 18 #[] w fun e w' => ∃ s p G, e = .returned (ptrV s) ∧ StmF w' s p G none 0 0 0 ∧ Below w.heap.size w w' ∧ w.heap.size ≤ s ∧ ∀ k, G k → w.heap.size ≤ k := by
  obtain ⟨w1, hw1⟩ : ∃ w1, w1 = w.alloc (.cells #[.bool true, .pointer none, .int .i64 0] 99) := ⟨_, rfl⟩
  have hb1 : Below w.heap.size w w1 := by rw [hw1]; exact (Below.refl _ _).alloc (Nat.le_refl _) _
  have hh1 : w1.heap[w.heap.size]? = some (.cells #[.bool true, .pointer none, .int .i64 0] 99 (0, 0)) := by rw [hw1]; exact heap_new _ _
  obtain ⟨w2, hw2⟩ : ∃ w2, w2 = w1.alloc (.cells #[.pointer (some ⟨w.heap.size, 0, none⟩), .int .u64 0, .int .u64 0] 53) := ⟨_, rfl⟩
  have hlt1 := heap_lt hh1
  have hb2 : Below w.heap.size w w2 := by rw [hw2]; exact hb1.alloc hb1.size _
  have hh2 : w2.heap[w1.heap.size]? = some (.cells #[.pointer (some ⟨w.heap.size, 0, none⟩), .int .u64 0, .int .u64 0] 53 (0, 0)) := by rw [hw2]; exact heap_new _ _
  have hh3 : w2.heap[w.heap.size]? = some (.cells #[.bool true, .pointer none, .int .i64 0] 99 (0, 0)) := by rw [hw2]; exact heap_old hh1 _
  have HN := Lib.hid (radNew w)
  have HW1 := Lib.hid hw1
  have HW2 := Lib.hid hw2
  have HE : Hid (StmF w2 w1.heap.size w.heap.size (fun k => k = w.heap.size) none 0 0 0 ∧ Below w.heap.size w w2) := Lib.hid ⟨⟨hh2, ⟨fun k hk => by rw [hk]; exact heap_lt hh3, ⟨hh3, rfl⟩⟩, by omega, by omega, by omega⟩, hb2⟩
  clear hw1 hb1 hh1 hw2 hb2 hh2 hh3
  unfold ptrV at *
  go_enter Tryd.func18, Tryd.ntmps18
  go_wp2_with fail
  refine HN.out.mono ?_
  rintro e w' ⟨rfl, rfl⟩
  rw [← HW1.out]
  go_wp2_with fail
  rw [← HW2.out]
  go_ret
  exact ⟨_, _, _, rfl, HE.out.1, HE.out.2, by omega, fun k hk => by omega⟩
set_option maxHeartbeats 800000 in
set_option maxRecDepth 100000 in
theorem stmThere {w : World} {s p : Nat} {G : Nat → Prop} {T : Option RT} {n ms q : Nat} (h : StmF w s p G T n ms q) :
    Calls Tryd.prog 35 #[ptrV s] w fun e w' => e = .returned (.bool true) ∧ w' = w := by
  have c0 := cell_in h.head (i := 0) rfl
  unfold ptrV at *
  clear h
  go_enter Tryd.func35, Tryd.ntmps35
  go_wp2_with fail
  go_ret
  exact ⟨rfl, rfl⟩
set_option maxHeartbeats 800000 in
set_option maxRecDepth 100000 in
theorem stmBelow (a b c d : Nat) (w : World) : Calls Tryd.prog 37 #[.agg #[.int .u64 a, .int .u64 b], .agg #[.int .u64 c, .int .u64 d]] w fun e w' => e = .returned (.bool (lessN (a, b) (c, d))) ∧ Below w.heap.size w w' := by
  have HL := Lib.hid (show lessN (a, b) (c, d) = (decide (a < c) || (decide (a = c) && decide (b < d))) by simp [lessN])
  rcases Nat.lt_or_ge a c with h1 | h1
  · have e1 := decide_eq_true h1
    have hr : lessN (a, b) (c, d) = true := by rw [HL.out, e1]; rfl
    rw [hr]
    clear h1 hr HL
    go_enter Tryd.func37, Tryd.ntmps37
    go_wp2_with fail
    go_ret
    exact ⟨rfl, ((Below.refl _ _).alloc (Nat.le_refl _) _).alloc (by simp) _⟩
  · have e1 : decide (a < c) = false := by simp; omega
    rcases Decidable.em (a = c) with h2 | h2
    · subst h2
      obtain ⟨v, hv⟩ : ∃ v, decide (b < d) = v := ⟨_, rfl⟩
      have hr : lessN (a, b) (a, d) = v := by rw [HL.out, hv]; simp
      rw [hr]
      clear h1 hr HL
      go_enter Tryd.func37, Tryd.ntmps37
      go_wp2_with fail
      go_ret
      exact ⟨rfl, ((Below.refl _ _).alloc (Nat.le_refl _) _).alloc (by simp) _⟩
    · have e2 : ((a : Int) == (c : Int)) = false := by simp; omega
      have hr : lessN (a, b) (c, d) = false := by rw [HL.out, e1]; simp [h2]
      rw [hr]
      clear h1 hr HL h2
      go_enter Tryd.func37, Tryd.ntmps37
      go_wp2_with fail
      go_ret
      exact ⟨rfl, ((Below.refl _ _).alloc (Nat.le_refl _) _).alloc (by simp) _⟩
set_option maxHeartbeats 800000 in
set_option maxRecDepth 100000 in
theorem stmLen {w : World} {s p : Nat} {G : Nat → Prop} {T : Option RT} {n ms q : Nat} (h : StmF w s p G T n ms q) :
    Calls Tryd.prog 22 #[ptrV s] w fun e w' => e = .returned (.int .i64 n) ∧ w' = w := by
  have c0 := cell_in h.head (i := 0) rfl
  have HT := Lib.hid (stmThere h)
  have HL := Lib.hid (treeLen h.tree)
  unfold ptrV at *
  clear h
  go_enter Tryd.func22, Tryd.ntmps22
  go_wp2_with fail
  refine HT.out.mono ?_
  rintro e w' ⟨rfl, rfl⟩
  go_wp2_with fail
  refine HL.out.mono ?_
  rintro e w' ⟨rfl, rfl⟩
  go_wp2_with fail
  go_ret
  exact ⟨rfl, rfl⟩
end Go.Proofs.YtbjpfnafhhbmaaaDoor

/- rows of pairs; is one of them too long? (slices.ContainsFunc with Add's closure) -/
namespace Go.Proofs.YtbjpfnafhhbmaaaDoor
set_option linter.unusedVariables false
set_option linter.unusedSimpArgs false
open Go.RowKit Sad
abbrev PairT := ByteArray × ByteArray
def e0 : PairT := (⟨#[]⟩, ⟨#[]⟩)
/-- A row of pairs in memory. -/
def PairRow (w : World) (a : Option Addr) (n c : Nat) (L : List PairT) : Prop :=
  L.length = n ∧ n ≤ c ∧ (n = 0 ∨ ∃ b o, a = some ⟨b, o, none⟩ ∧ ∀ i, i < n → w.cell? ⟨b, o + i * 2, none⟩ = some (.string (L.getD i e0).1) ∧ w.cell? ⟨b, o + i * 2 + 1, none⟩ = some (.string (L.getD i e0).2))
theorem PairRow.cells {w : World} {a : Option Addr} {n c : Nat} {L : List PairT} (h : PairRow w a n c L) {i : Nat} (hi : i < n) : ∃ b o, a = some ⟨b, o, none⟩ ∧ b < w.heap.size ∧ w.cell? ⟨b, o + i * 2, none⟩ = some (.string (L.getD i e0).1) ∧ w.cell? ⟨b, o + i * 2 + 1, none⟩ = some (.string (L.getD i e0).2) := by
  obtain ⟨h1, h2, h3⟩ := h
  obtain ⟨b, o, e, hc⟩ := h3.resolve_left (by omega)
  exact ⟨b, o, e, World.block_lt_of_cell? w _ (hc i hi).1, (hc i hi).1, (hc i hi).2⟩
theorem PairRow.chg {w w' : World} {a : Option Addr} {n c : Nat} {L : List PairT} (h : PairRow w a n c L) {S : Nat → Prop} (hc : Chg S w w') (hn : ∀ b o, a = some ⟨b, o, none⟩ → ¬ S b) : PairRow w' a n c L := by
  refine ⟨h.1, h.2.1, ?_⟩
  rcases Nat.eq_zero_or_pos n with h0 | h0
  · exact .inl h0
  · obtain ⟨b, o, e, hk⟩ := h.2.2.resolve_left (by omega)
    refine .inr ⟨b, o, e, fun i hi => ?_⟩
    have hlt := World.block_lt_of_cell? w _ (hk i hi).1
    have hb := hc.block b hlt (hn b o e)
    have e1 : ∀ x, w'.cell? ⟨b, x, none⟩ = w.cell? ⟨b, x, none⟩ := fun x => by unfold World.cell?; simp only [hb]
    rw [e1, e1]
    exact hk i hi
theorem PairRow.below {w w' : World} {a : Option Addr} {n c : Nat} {L : List PairT} (h : PairRow w a n c L) (hb : Below w.heap.size w w') : PairRow w' a n c L := h.chg (Chg.of_below (fun _ => False) hb) fun _ _ _ => id
def longP (p : PairT) : Bool := decide (65536 < p.1.size) || decide (65536 < p.2.size)
set_option maxHeartbeats 800000 in
set_option maxRecDepth 100000 in
theorem add1_any (f v : ByteArray) (w : World) : Calls Tryd.prog 53 #[.agg #[.string f, .string v]] w fun e w' => e = .returned (.bool (longP (f, v))) ∧ Below w.heap.size w w' := by
  have HL := Lib.hid (show longP (f, v) = (decide (65536 < f.size) || decide (65536 < v.size)) from rfl)
  obtain ⟨w1, hw1⟩ : ∃ w1, w1 = w.alloc (.cells #[.string f, .string v] 59) := ⟨_, rfl⟩
  have hb1 : Below w.heap.size w w1 := by rw [hw1]; exact (Below.refl _ _).alloc (Nat.le_refl _) _
  have hh1 : w1.heap[w.heap.size]? = some (.cells #[.string f, .string v] 59 (0, 0)) := by rw [hw1]; exact heap_new _ _
  have c0 := cell_in hh1 (i := 0) rfl
  have c1 := cell_in hh1 (i := 1) rfl
  have HW := Lib.hid hw1
  have HB := Lib.hid hb1
  rcases Nat.lt_or_ge 65536 f.size with h1 | h1
  · have i1 : (65536 : Int) < (f.size : Int) := by omega
    have hr : longP (f, v) = true := by rw [HL.out, decide_eq_true h1]; rfl
    rw [hr]
    clear hw1 hb1 hh1 hr HL h1
    go_enter Tryd.func53, Tryd.ntmps53
    go_wp2_with fail
    rw [← HW.out]
    go_ret
    exact ⟨rfl, HB.out⟩
  · have i1 : (f.size : Int) ≤ 65536 := by omega
    have i2 : ¬ (65536 : Int) < (f.size : Int) := by omega
    obtain ⟨x, hx⟩ : ∃ x, decide ((65536 : Int) < (v.size : Int)) = x := ⟨_, rfl⟩
    have hr : longP (f, v) = x := by rw [HL.out, decide_eq_false (by omega), ← hx, Bool.false_or]; exact decide_eq_decide.2 (by omega)
    rw [hr]
    clear hw1 hb1 hh1 hr HL h1
    go_enter Tryd.func53, Tryd.ntmps53
    go_wp2_with fail
    rw [← HW.out]
    go_ret
    exact ⟨rfl, HB.out⟩
theorem any_take_succ {L : List PairT} {i : Nat} {x : PairT} {q : PairT → Bool} (h : i < L.length) (hx : L.getD i e0 = x) : (L.take (i + 1)).any q = ((L.take i).any q || q x) := by
  have e : L[i] = x := by rw [← hx]; simp [List.getD, h]
  rw [List.take_succ_eq_append_getElem h, List.any_append, e]
  simp
set_option maxHeartbeats 1600000 in
set_option maxRecDepth 100000 in
theorem indexLong {w : World} {a : Option Addr} {n c : Nat} {L : List PairT} (h : PairRow w a n c L) (hn : n ≤ 281474976710656) :
    Calls Tryd.prog 68 #[.slice a n c, .func (.func 53) #[] #[]] w fun e w' => ∃ r : Int, e = .returned (.int .i64 r) ∧ decide (0 ≤ r) = L.any longP ∧ Below w.heap.size w w' := by
  have HR := Lib.hid h
  have hcn := h.2.1
  clear h
  go_enter Tryd.func68, Tryd.ntmps68
  go_wp2_with fail
  go_loopw [8] (fun i wr => ∃ k : Nat, k ≤ n ∧ i = .int .i64 k ∧ Hid ((L.take k).any longP = false ∧ Below w.heap.size w wr)) (fun i _ => n - (intOf i).toNat)
  case atStart => exact ⟨0, Nat.zero_le _, rfl, Lib.hid ⟨rfl, Below.refl _ _⟩⟩
  case round =>
    obtain ⟨k, hk, rfl, hI⟩ := hrel
    by_cases hlt : k < n
    · obtain ⟨b, o, rfl, _, c0, c1⟩ := (HR.out.below hI.out.2).cells hlt
      obtain ⟨f, hf⟩ : ∃ f, (L.getD k e0).1 = f := ⟨_, rfl⟩
      obtain ⟨v, hv⟩ : ∃ v, (L.getD k e0).2 = v := ⟨_, rfl⟩
      have hx : L.getD k e0 = (f, v) := by rw [← hf, ← hv]
      rw [hf] at c0
      rw [hv] at c1
      have hs := any_take_succ (q := longP) (by rw [HR.out.1]; exact hlt) hx
      rw [hI.out.1, Bool.false_or] at hs
      obtain ⟨t, ht⟩ : ∃ t, longP (f, v) = t := ⟨_, rfl⟩
      have HA := Lib.hid (add1_any f v wr)
      rw [ht] at HA hs
      have HS := Lib.hid hs
      clear hf hv hx ht hs
      go_wp2_with fail
      refine HA.out.mono ?_
      rintro e w2 ⟨rfl, b2⟩
      have HB2 := Lib.hid (hI.out.2.trans (b2.mono hI.out.2.size))
      clear b2
      cases t
      case' true =>
        have hany : L.any longP = true := by
          have h1 := HS.out
          rw [List.any_eq_true] at h1 ⊢
          obtain ⟨x, hx1, hx2⟩ := h1
          exact ⟨x, List.mem_of_mem_take hx1, hx2⟩
        have HY := Lib.hid hany
        clear hany
        go_wp2_with fail
        exact bodyPost_ret (results_tmp rfl _ _ _) rfl ⟨(k : Int), rfl, by rw [HY.out]; simp, HB2.out⟩
      case' false =>
        go_wp2_with fail
        go_roundw
        case rel => exact ⟨k + 1, by omega, by go_num, Lib.hid ⟨HS.out, HB2.out⟩⟩
        case measure => simp [intOf]; omega
    · obtain rfl : n = k := by omega
      go_wp2_with fail
      go_ret
      have h1 := hI.out.1
      rw [List.take_of_length_le (by rw [HR.out.1]; exact Nat.le_refl _)] at h1
      exact ⟨-1, rfl, by rw [h1]; rfl, hI.out.2⟩
set_option maxHeartbeats 800000 in
set_option maxRecDepth 100000 in
theorem containsLong {w : World} {a : Option Addr} {n c : Nat} {L : List PairT} (h : PairRow w a n c L) (hn : n ≤ 281474976710656) :
    Calls Tryd.prog 54 #[.slice a n c, .func (.func 53) #[] #[]] w fun e w' => e = .returned (.bool (L.any longP)) ∧ Below w.heap.size w w' := by
  have HI := Lib.hid (indexLong h hn)
  clear h
  go_enter Tryd.func54, Tryd.ntmps54
  go_wp2_with fail
  refine HI.out.mono ?_
  rintro e w2 ⟨r, rfl, hr, b2⟩
  have HR := Lib.hid hr
  have HB := Lib.hid b2
  clear hr b2
  go_wp2_with fail
  go_ret
  exact ⟨by rw [← HR.out]; rfl, HB.out⟩
end Go.Proofs.YtbjpfnafhhbmaaaDoor

/- slices.Clone of a row of pairs. -/
namespace Go.Proofs.YtbjpfnafhhbmaaaDoor
set_option linter.unusedVariables false
set_option linter.unusedSimpArgs false
open Go.RowKit Sad
@[go_sem] theorem eql_pairs_nil (w : World) (a : Option Addr) (n c : Nat) : (binOp .eql 37 (.slice a n c) (.slice none 0 0)).run Tryd.prog w = .ok (.bool a.isNone) w :=
  Lib.run_eql_slice_nil w _ _ a n c 0 0 Tryd.underlying37
theorem info_pair : (Tryd.prog.info? 59).map (fun i => (i.zero, i.size, i.bytes)) = some (some (.agg #[.string ⟨#[]⟩, .string ⟨#[]⟩]), 2, 32) := by kernel_rfl
def pairC (p : PairT) : List Value := [.string p.1, .string p.2]
theorem flatP : ∀ (A : List PairT) (i : Nat) (h : i < A.length) (j : Nat), j < 2 → (A.flatMap pairC).getD (i * 2 + j) undef = (pairC A[i]).getD j undef
  | p :: A, 0, _, j, hj => by
    simp only [List.flatMap_cons, List.getD, Nat.zero_mul, Nat.zero_add, List.getElem_cons_zero]
    rw [List.getElem?_append_left (by simp [pairC]; exact hj)]
  | p :: A, i + 1, h, j, hj => by
    have := flatP A i (by simpa using h) j hj
    simp only [List.flatMap_cons, List.getD, List.getElem_cons_succ] at this ⊢
    rw [List.getElem?_append_right (by simp [pairC]; omega), show (i + 1) * 2 + j - (pairC p).length = i * 2 + j by simp [pairC]; omega]
    exact this
theorem flatP_len : ∀ (A : List PairT), (A.flatMap pairC).length = A.length * 2
  | [] => rfl
  | p :: A => by rw [List.flatMap_cons, List.length_append, flatP_len A]; simp [pairC]; omega
theorem PairRow.of_slice {w : World} {B : Nat} {a : Option Addr} {n c : Nat} {A : List PairT} (h : SliceN w B 59 2 (.slice a n c) n (A.flatMap pairC)) (hn : A.length = n) : PairRow w a n c A := by
  obtain ⟨a', c', he, h1, _⟩ := h.form
  cases he
  refine ⟨hn, h1, ?_⟩
  rcases Nat.eq_zero_or_pos n with h0 | h0
  · exact .inl h0
  · obtain ⟨g, cap, cur, he, _⟩ := h.2.resolve_left (by omega)
    cases he
    refine .inr ⟨g, 0, rfl, fun i hi => ?_⟩
    have e0 := h.cell rfl (i := i * 2) (by omega)
    have e1 := h.cell rfl (i := i * 2 + 1) (by omega)
    have f0 := flatP A i (by omega) 0 (by omega)
    have f1 := flatP A i (by omega) 1 (by omega)
    rw [Nat.add_zero] at f0
    rw [f0] at e0
    rw [f1] at e1
    rw [Nat.zero_add, e0, e1]
    simp [pairC, List.getD, show i < A.length by omega]
set_option maxHeartbeats 800000 in
set_option maxRecDepth 100000 in
theorem clone_any {w : World} {a : Option Addr} {n c : Nat} {L : List PairT} (h : PairRow w a n c L) (h0 : 0 < n) (hn : n ≤ 4000000000000) :
    Calls Tryd.prog 38 #[.slice a n c] w fun e w' => ∃ b c', e = .returned (.slice (some ⟨b, 0, none⟩) n c') ∧ PairRow w' (some ⟨b, 0, none⟩) n c' L ∧ w.heap.size ≤ b ∧ Below w.heap.size w w' := by
  obtain ⟨b, o, rfl, hc⟩ := h.2.2.resolve_left (by omega)
  have hL := h.1
  obtain ⟨w1, hw1⟩ : ∃ w1, w1 = w.alloc (.cells #[] 59) := ⟨_, rfl⟩
  have hb1 : Below w.heap.size w w1 := by rw [hw1]; exact (Below.refl _ _).alloc (Nat.le_refl _) _
  have hh1 : w1.heap[w.heap.size]? = some (.cells #[] 59 (0, 0)) := by rw [hw1]; exact heap_new _ _
  obtain ⟨i0, g1, g2, g3, g4⟩ := info_parts info_pair
  have hs0 : SliceN w1 w.heap.size 59 2 (.slice (some ⟨w.heap.size, 0, none⟩) 0 0) 0 [] := ⟨by simp, .inr ⟨w.heap.size, 0, #[], rfl, Nat.le_refl _, RowAt.of hh1, rfl, Nat.le_refl _, by omega, rfl⟩⟩
  have hnews : ∀ j u, (L.flatMap pairC)[j]? = some u → w1.cell? ((⟨b, o, none⟩ : Addr).add j) = some u := fun j u hu => by
    have hj : j < (L.flatMap pairC).length := by
      rcases Nat.lt_or_ge j (L.flatMap pairC).length with h | h
      · exact h
      · rw [List.getElem?_eq_none h] at hu; cases hu
    rw [flatP_len, hL] at hj
    rw [Addr.add_lit]
    have hi : j / 2 < n := by omega
    have hlt := World.block_lt_of_cell? w _ (hc (j / 2) hi).1
    have hq := flatP L (j / 2) (by omega) (j % 2) (by omega)
    rw [show j / 2 * 2 + j % 2 = j by omega] at hq
    have hgu : (L.flatMap pairC).getD j undef = u := by simp [List.getD, hu]
    have hgL : L.getD (j / 2) e0 = L[j / 2]'(by omega) := by simp [List.getD, show j / 2 < L.length by omega]
    rcases Nat.mod_two_eq_zero_or_one j with h2 | h2
    · have h1 := (hc (j / 2) hi).1
      rw [hb1.cell (p := ⟨b, o + j, none⟩) hlt, show o + j = o + j / 2 * 2 by omega, h1, ← hgu, hq, h2, hgL]
      simp [pairC]
    · have h1 := (hc (j / 2) hi).2
      rw [hb1.cell (p := ⟨b, o + j, none⟩) hlt, show o + j = o + j / 2 * 2 + 1 by omega, h1, ← hgu, hq, h2, hgL]
      simp [pairC]
  obtain ⟨v', W2, hrn, s2, c2, hv2⟩ := run_append_ownN (P := Tryd.prog) (t := 37) (ty := 37) (z := 2) (w := w1) Tryd.underlying37 g1 g2 g3 g4 rfl hs0 hb1.size ⟨b, o, none⟩ n c (L.flatMap pairC) h0 (by rw [flatP_len, hL]) hnews (fun u hu => by
    obtain ⟨x, _, hx⟩ := List.mem_flatMap.1 hu
    simp [pairC] at hx
    rcases hx with rfl | rfl <;> rfl) (by unfold maxLen; omega) (by omega)
  rw [List.nil_append, Nat.zero_add] at s2
  obtain ⟨g, c', cur, rfl, hg, _⟩ := s2.2.resolve_left (by omega)
  have HR := Lib.hid hrn
  have HE := Lib.hid (show PairRow W2 (some ⟨g, 0, none⟩) n c' L ∧ w.heap.size ≤ g ∧ Below w.heap.size w W2 from
    ⟨PairRow.of_slice s2 hL, hg, belowChg hb1 c2 hb1.size fun k hk _ => (hs0.block_lt hk).1⟩)
  rw [hw1] at HR
  clear hw1 hb1 hh1 hrn s2 c2 hv2 hs0 hnews h hc g1 g2 g3 g4
  go_enter Tryd.func38, Tryd.ntmps38
  go_wp2_with (at_builtin; refine wpList_append_run rfl rfl HR.out ?_)
  go_ret
  exact ⟨_, _, rfl, HE.out.1, HE.out.2.1, HE.out.2.2⟩
end Go.Proofs.YtbjpfnafhhbmaaaDoor

/- (*stream.Stream).Add. -/
namespace Go.Proofs.YtbjpfnafhhbmaaaDoor
set_option linter.unusedVariables false
set_option linter.unusedSimpArgs false
open Go.RowKit Sad
set_option maxHeartbeats 3200000 in
set_option maxRecDepth 100000 in
/-- An entry that may not be: it has no pair, one too long, or its identifier is not above the last one. -/
theorem addBad {w : World} {s p : Nat} {G : Nat → Prop} {T : Option RT} {n ms q : Nat} (h : StmF w s p G T n ms q) {a : Option Addr} {k c : Nat} {L : List PairT} (hp : PairRow w a k c L) (hk : k ≤ 281474976710656) (im iq : Nat)
    (hbad : k = 0 ∨ L.any longP = true ∨ lessN (ms, q) (im, iq) = false) :
    Calls Tryd.prog 25 #[ptrV s, .agg #[.int .u64 im, .int .u64 iq, .slice a k c]] w fun e w' => e = .returned (.int .i64 1) ∧ Below w.heap.size w w' := by
  obtain ⟨w1, hw1⟩ : ∃ w1, w1 = w.alloc (.cells #[.int .u64 im, .int .u64 iq, .slice a k c] 39) := ⟨_, rfl⟩
  have hb1 : Below w.heap.size w w1 := by rw [hw1]; exact (Below.refl _ _).alloc (Nat.le_refl _) _
  have hh1 : w1.heap[w.heap.size]? = some (.cells #[.int .u64 im, .int .u64 iq, .slice a k c] 39 (0, 0)) := by rw [hw1]; exact heap_new _ _
  have hlt1 := heap_lt hh1
  have h1 := h.below hb1
  have HC := Lib.hid (show ∀ w', Below w1.heap.size w1 w' → (w'.cell? ⟨s, 1, none⟩ = some (.int .u64 ms) ∧ w'.cell? ⟨s, 2, none⟩ = some (.int .u64 q)) ∧ (w'.cell? ⟨w.heap.size, 0, none⟩ = some (.int .u64 im) ∧ w'.cell? ⟨w.heap.size, 1, none⟩ = some (.int .u64 iq)) ∧ w'.cell? ⟨w.heap.size, 2, none⟩ = some (.slice a k c) from fun w' hb => by
    have e1 := (hb.block _ (heap_lt h1.head)).trans h1.head
    have e2 := (hb.block _ hlt1).trans hh1
    exact ⟨⟨cell_in e1 rfl, cell_in e1 rfl⟩, ⟨cell_in e2 rfl, cell_in e2 rfl⟩, cell_in e2 rfl⟩)
  have HT := Lib.hid (stmThere h1)
  have HL := Lib.hid (fun w' (hb : Below w1.heap.size w1 w') => containsLong ((hp.below hb1).below hb) hk)
  have HBl := Lib.hid (fun w' => stmBelow ms q im iq w')
  have HW := Lib.hid hw1
  have HB1 := Lib.hid hb1
  obtain ⟨x, hx⟩ : ∃ x, L.any longP = x := ⟨_, rfl⟩
  obtain ⟨y, hy⟩ : ∃ y, lessN (ms, q) (im, iq) = y := ⟨_, rfl⟩
  rw [hx] at HL hbad
  rw [hy] at HBl hbad
  obtain ⟨c0, c1⟩ := HC.out w1 (Below.refl _ _)
  obtain ⟨X1, f, hX1, hf, hF⟩ := classOf (fun x => (x.cell? ⟨s, 1, none⟩ = some (.int .u64 ms) ∧ x.cell? ⟨s, 2, none⟩ = some (.int .u64 q)) ∧ (x.cell? ⟨w.heap.size, 0, none⟩ = some (.int .u64 im) ∧ x.cell? ⟨w.heap.size, 1, none⟩ = some (.int .u64 iq)) ∧ x.cell? ⟨w.heap.size, 2, none⟩ = some (.slice a k c)) (w := w1) ⟨c0, c1⟩
  have f1 := fun x => (hf x).1.1
  have f2 := fun x => (hf x).1.2
  have f3 := fun x => (hf x).2.1.1
  have f4 := fun x => (hf x).2.1.2
  have f5 := fun x => (hf x).2.2
  have HF1 := Lib.hid hF
  have HFa := Lib.hid (hF w1.drew ⟨c0, c1⟩)
  clear hF hf hp h hw1 hb1 hh1 h1 hx hy c0 c1 hlt1
  unfold ptrV at *
  rcases Nat.eq_zero_or_pos k with hk0 | hk0
  · have ek : ((k : Int) == 0) = true := by simp; omega
    clear hbad hk0
    go_enter Tryd.func25, Tryd.ntmps25
    go_wp2_with fail
    rw [← HW.out]
    refine HT.out.mono ?_
    rintro e w' ⟨rfl, hww⟩
    rw [hww]
    clear hww w'
    go_upto_region 4 with (fail)
    refine wp_region_text ⟨[8, 17], [18, 19], 17⟩ (fun w' => ∃ x : X1, w' = f x) (by kernel_rfl) (by kernel_rfl) HFa.out ?_
    refine wpC_seg false (HFa.out) 8 0 _ _ (by rfl) (by rfl) ?_
    simp only [List.take_succ_cons, List.take_zero, List.drop_succ_cons, List.drop_zero, Bool.false_eq_true, if_false, Nat.zero_add, Nat.reduceAdd]
    repeat (go_big_quiet_step (fail))
    refine wpQuiet_nil ?_
    refine wpC_skip (by rfl) (by rfl) (fun _ => HFa.out) ?_
    simp only [Act.put, List.setIfInBounds_toArray, List.set_cons_succ, List.set_cons_zero]
    refine wpC_seg false (HFa.out) 8 9 _ _ (by rfl) (by rfl) ?_
    simp only [List.take_succ_cons, List.take_zero, List.drop_succ_cons, List.drop_zero, Bool.false_eq_true, if_false, Nat.zero_add, Nat.reduceAdd]
    repeat (go_big_quiet_step (fail))
    refine wpQuiet_nil ?_
    refine wpC_skip (by rfl) (by rfl) (fun h => absurd h (by decide)) ?_
    simp only [Act.put, List.setIfInBounds_toArray, List.set_cons_succ, List.set_cons_zero]
    refine wpC_segD 2 18 _ _ (by rfl) (by rfl) ?_
    simp only [List.take_succ_cons, List.take_zero, List.drop_succ_cons, List.drop_zero, if_true, Nat.zero_add, Nat.reduceAdd]
    repeat (go_big_quiet_step (fail))
    refine wpQuiet_nil ?_
    refine wpC_nil ?_
    clear f1 f2 f3 f4 f5 hX1 HF1 HFa f
    go_wp2_with fail
    go_ret
    exact ⟨rfl, HB1.out.trans ((belowN (Below.refl _ _) 1).mono HB1.out.size)⟩
  · have ek : ((k : Int) == 0) = false := by simp; omega
    have hxy : x = true ∨ y = false := hbad.resolve_left (by omega)
    clear hbad hk0
    cases x
    case' true =>
      clear hxy
      go_enter Tryd.func25, Tryd.ntmps25
      go_wp2_with fail
      rw [← HW.out]
      refine HT.out.mono ?_
      rintro e w' ⟨rfl, hww⟩
      rw [hww]
      clear hww w'
      go_upto_region 4 with (fail)
      refine wp_region_text ⟨[8, 17], [18, 19], 17⟩ (fun w' => ∃ x : X1, w' = f x) (by kernel_rfl) (by kernel_rfl) HFa.out ?_
      refine wpC_seg false (HFa.out) 8 0 _ _ (by rfl) (by rfl) ?_
      simp only [List.take_succ_cons, List.take_zero, List.drop_succ_cons, List.drop_zero, Bool.false_eq_true, if_false, Nat.zero_add, Nat.reduceAdd]
      repeat (go_big_quiet_step (fail))
      refine wpQuiet_nil ?_
      refine wpC_loud (by rfl) (by rfl) fun K hK => ?_
      go_wp2_with fail
      refine (HL.out _ (belowN (Below.refl _ _) 1)).mono ?_
      rintro e w2 ⟨rfl, b2⟩
      have HB2 := Lib.hid ((belowN (Below.refl w1.heap.size w1) 1).trans b2)
      have HF2 := Lib.hid (HF1.out w2 (HC.out w2 HB2.out))
      refine hK _ _ (fun _ => HF2.out) ?_
      clear hK b2
      refine wpC_seg false (HF2.out) 8 9 _ _ (by rfl) (by rfl) ?_
      simp only [List.take_succ_cons, List.take_zero, List.drop_succ_cons, List.drop_zero, Bool.false_eq_true, if_false, Nat.zero_add, Nat.reduceAdd]
      repeat (go_big_quiet_step (fail))
      refine wpQuiet_nil ?_
      refine wpC_skip (by rfl) (by rfl) (fun h => absurd h (by decide)) ?_
      simp only [Act.put, List.setIfInBounds_toArray, List.set_cons_succ, List.set_cons_zero]
      refine wpC_segD 2 18 _ _ (by rfl) (by rfl) ?_
      simp only [List.take_succ_cons, List.take_zero, List.drop_succ_cons, List.drop_zero, if_true, Nat.zero_add, Nat.reduceAdd]
      repeat (go_big_quiet_step (fail))
      refine wpQuiet_nil ?_
      refine wpC_nil ?_
      clear f1 f2 f3 f4 f5 hX1 HF1 HFa HF2 f
      go_wp2_with fail
      go_ret
      exact ⟨rfl, HB1.out.trans (HB2.out.mono HB1.out.size)⟩
    case' false =>
      obtain rfl : y = false := hxy.resolve_left (by decide)
      clear hxy
      go_enter Tryd.func25, Tryd.ntmps25
      go_wp2_with fail
      rw [← HW.out]
      refine HT.out.mono ?_
      rintro e w' ⟨rfl, hww⟩
      rw [hww]
      clear hww w'
      go_upto_region 4 with (fail)
      refine wp_region_text ⟨[8, 17], [18, 19], 17⟩ (fun w' => ∃ x : X1, w' = f x) (by kernel_rfl) (by kernel_rfl) HFa.out ?_
      refine wpC_seg false (HFa.out) 8 0 _ _ (by rfl) (by rfl) ?_
      simp only [List.take_succ_cons, List.take_zero, List.drop_succ_cons, List.drop_zero, Bool.false_eq_true, if_false, Nat.zero_add, Nat.reduceAdd]
      repeat (go_big_quiet_step (fail))
      refine wpQuiet_nil ?_
      refine wpC_loud (by rfl) (by rfl) fun K hK => ?_
      go_wp2_with fail
      refine (HL.out _ (belowN (Below.refl _ _) 1)).mono ?_
      rintro e w2 ⟨rfl, b2⟩
      have HB2 := Lib.hid ((belowN (Below.refl w1.heap.size w1) 1).trans b2)
      have HF2 := Lib.hid (HF1.out w2 (HC.out w2 HB2.out))
      refine hK _ _ (fun _ => HF2.out) ?_
      clear hK b2
      refine wpC_seg false (HF2.out) 8 9 _ _ (by rfl) (by rfl) ?_
      simp only [List.take_succ_cons, List.take_zero, List.drop_succ_cons, List.drop_zero, Bool.false_eq_true, if_false, Nat.zero_add, Nat.reduceAdd]
      repeat (go_big_quiet_step (fail))
      refine wpQuiet_nil ?_
      refine wpC_loud (by rfl) (by rfl) fun K hK => ?_
      go_wp2_with fail
      refine (HBl.out _).mono ?_
      rintro e w3 ⟨rfl, b3⟩
      have HB3 := Lib.hid (HB2.out.trans (b3.mono HB2.out.size))
      refine hK _ _ (fun h => absurd h (by decide)) ?_
      clear hK b3
      refine wpC_segD 2 18 _ _ (by rfl) (by rfl) ?_
      simp only [List.take_succ_cons, List.take_zero, List.drop_succ_cons, List.drop_zero, if_true, Nat.zero_add, Nat.reduceAdd]
      repeat (go_big_quiet_step (fail))
      refine wpQuiet_nil ?_
      refine wpC_nil ?_
      clear f1 f2 f3 f4 f5 hX1 HF1 HFa HF2 f
      go_wp2_with fail
      go_ret
      exact ⟨rfl, HB1.out.trans (HB3.out.mono HB1.out.size)⟩
end Go.Proofs.YtbjpfnafhhbmaaaDoor

/- (*stream.Stream).Add of an entry that may be. -/
namespace Go.Proofs.YtbjpfnafhhbmaaaDoor
set_option linter.unusedVariables false
set_option linter.unusedSimpArgs false
open Go.RowKit Sad
set_option maxHeartbeats 6400000 in
set_option maxRecDepth 100000 in
/-- An entry that may be, and there is room: a copy of its pairs stands in the tree. -/
theorem addGood {w : World} {s p : Nat} {G : Nat → Prop} {T : Option RT} {n ms q : Nat} (h : StmF w s p G T n ms q) {a : Option Addr} {k c : Nat} {L : List PairT} (hp : PairRow w a k c L) (hk : k ≤ 4000000000000) {im iq : Nat} (him : im < 18446744073709551616) (hiq : iq < 18446744073709551616)
    (hk0 : 0 < k) (hx : L.any longP = false) (hy : lessN (ms, q) (im, iq) = true) (hn : n < 1048576) :
    Calls Tryd.prog 25 #[ptrV s, .agg #[.int .u64 im, .int .u64 iq, .slice a k c]] w fun e w' => e = .returned (.int .i64 0) ∧ ∃ G' b c', StmF w' s p G' (putO T (idBytes im iq) (some ⟨b, 0, none⟩, k, c')) (if (lookO T (idBytes im iq)).isNone then n + 1 else n) im iq ∧ PairRow w' (some ⟨b, 0, none⟩) k c' L ∧ w.heap.size ≤ b ∧ ¬ G' b ∧ (∀ j, G' j → G j ∨ w.heap.size ≤ j) ∧ Chg (fun j => G j ∨ j = s) w w' := by
  obtain ⟨w1, hw1⟩ : ∃ w1, w1 = w.alloc (.cells #[.int .u64 im, .int .u64 iq, .slice a k c] 39) := ⟨_, rfl⟩
  have hb1 : Below w.heap.size w w1 := by rw [hw1]; exact (Below.refl _ _).alloc (Nat.le_refl _) _
  have hh1 : w1.heap[w.heap.size]? = some (.cells #[.int .u64 im, .int .u64 iq, .slice a k c] 39 (0, 0)) := by rw [hw1]; exact heap_new _ _
  have hlt1 := heap_lt hh1
  have h1 := h.below hb1
  have HC := Lib.hid (show ∀ w', Below w1.heap.size w1 w' → (w'.cell? ⟨s, 1, none⟩ = some (.int .u64 ms) ∧ w'.cell? ⟨s, 2, none⟩ = some (.int .u64 q) ∧ w'.cell? ⟨s, 0, none⟩ = some (ptrV p)) ∧ (w'.cell? ⟨w.heap.size, 0, none⟩ = some (.int .u64 im) ∧ w'.cell? ⟨w.heap.size, 1, none⟩ = some (.int .u64 iq)) ∧ w'.cell? ⟨w.heap.size, 2, none⟩ = some (.slice a k c) from fun w' hb => by
    have e1 := (hb.block _ (heap_lt h1.head)).trans h1.head
    have e2 := (hb.block _ hlt1).trans hh1
    exact ⟨⟨cell_in e1 rfl, cell_in e1 rfl, cell_in e1 rfl⟩, ⟨cell_in e2 rfl, cell_in e2 rfl⟩, cell_in e2 rfl⟩)
  have HT := Lib.hid (stmThere h1)
  have HL := Lib.hid (fun w' (hb : Below w1.heap.size w1 w') => containsLong ((hp.below hb1).below hb) (by omega))
  have HBl := Lib.hid (fun w' => stmBelow ms q im iq w')
  have HW := Lib.hid hw1
  have HB1 := Lib.hid hb1
  obtain ⟨bo, hbo⟩ : ∃ bo, (lookO T (idBytes im iq)).isNone = bo := ⟨_, rfl⟩
  obtain ⟨N', hN'⟩ : ∃ N', (if bo then n + 1 else n) = N' := ⟨_, rfl⟩
  rw [hbo, hN']
  have HBO := Lib.hid (And.intro hbo hN')
  clear hbo hN'
  rw [hx] at HL
  rw [hy] at HBl
  have HH := Lib.hid h
  have HH1 := Lib.hid h1
  have HP := Lib.hid (hp.below hb1)
  have HX := Lib.hid (And.intro him (And.intro hiq (And.intro hk hh1)))
  have ek : ((k : Int) == 0) = false := by simp; omega
  have HLs := Lib.hid (And.intro (heap_lt h.head) trivial)
  obtain ⟨c0, c1⟩ := HC.out w1 (Below.refl _ _)
  obtain ⟨X1, f, hX1, hf, hF⟩ := classOf (fun x => (x.cell? ⟨s, 1, none⟩ = some (.int .u64 ms) ∧ x.cell? ⟨s, 2, none⟩ = some (.int .u64 q) ∧ x.cell? ⟨s, 0, none⟩ = some (ptrV p)) ∧ (x.cell? ⟨w.heap.size, 0, none⟩ = some (.int .u64 im) ∧ x.cell? ⟨w.heap.size, 1, none⟩ = some (.int .u64 iq)) ∧ x.cell? ⟨w.heap.size, 2, none⟩ = some (.slice a k c)) (w := w1) ⟨c0, c1⟩
  have f1 := fun x => (hf x).1.1
  have f2 := fun x => (hf x).1.2.1
  have f6 := fun x => (hf x).1.2.2
  have f3 := fun x => (hf x).2.1.1
  have f4 := fun x => (hf x).2.1.2
  have f5 := fun x => (hf x).2.2
  have HF1 := Lib.hid hF
  have HFa := Lib.hid (hF w1.drew ⟨c0, c1⟩)
  clear hF hf hp h hw1 hb1 hh1 h1 hx hy c0 c1 hlt1 hk0 him hiq hk
  unfold ptrV at *
  go_enter Tryd.func25, Tryd.ntmps25
  go_wp2_with fail
  rw [← HW.out]
  refine HT.out.mono ?_
  rintro e w' ⟨rfl, hww⟩
  rw [hww]
  clear hww w'
  go_upto_region 4 with (fail)
  refine wp_region_text ⟨[8, 17], [18, 19], 17⟩ (fun w' => ∃ x : X1, w' = f x) (by kernel_rfl) (by kernel_rfl) HFa.out ?_
  refine wpC_seg false (HFa.out) 8 0 _ _ (by rfl) (by rfl) ?_
  simp only [List.take_succ_cons, List.take_zero, List.drop_succ_cons, List.drop_zero, Bool.false_eq_true, if_false, Nat.zero_add, Nat.reduceAdd]
  repeat (go_big_quiet_step (fail))
  refine wpQuiet_nil ?_
  refine wpC_loud (by rfl) (by rfl) fun K hK => ?_
  go_wp2_with fail
  refine (HL.out _ (belowN (Below.refl _ _) 1)).mono ?_
  rintro e w2 ⟨rfl, b2⟩
  have HB2 := Lib.hid ((belowN (Below.refl w1.heap.size w1) 1).trans b2)
  have HF2 := Lib.hid (HF1.out w2 (HC.out w2 HB2.out))
  refine hK _ _ (fun _ => HF2.out) ?_
  clear hK b2
  refine wpC_seg false (HF2.out) 8 9 _ _ (by rfl) (by rfl) ?_
  simp only [List.take_succ_cons, List.take_zero, List.drop_succ_cons, List.drop_zero, Bool.false_eq_true, if_false, Nat.zero_add, Nat.reduceAdd]
  repeat (go_big_quiet_step (fail))
  refine wpQuiet_nil ?_
  refine wpC_loud (by rfl) (by rfl) fun K hK => ?_
  go_wp2_with fail
  refine (HBl.out _).mono ?_
  rintro e w3 ⟨rfl, b3⟩
  have HB3 := Lib.hid (HB2.out.trans (b3.mono HB2.out.size))
  refine hK _ _ (fun h => absurd h (by decide)) ?_
  clear hK b3
  refine wpC_segD 2 18 _ _ (by rfl) (by rfl) ?_
  simp only [List.take_succ_cons, List.take_zero, List.drop_succ_cons, List.drop_zero, if_true, Nat.zero_add, Nat.reduceAdd]
  repeat (go_big_quiet_step (fail))
  refine wpQuiet_nil ?_
  refine wpC_nil ?_
  obtain ⟨⟨d1, d2, d0⟩, d3⟩ := HC.out w3 HB3.out
  have HLn := Lib.hid (treeLen (HH1.out.below HB3.out).tree)
  have ed1 : decide ((1048576 : Int) ≤ (n : Int)) = false := decide_eq_false (by omega)
  have ed2 : decide ((n : Int) ≥ (1048576 : Int)) = false := decide_eq_false (by omega)
  have HN := Lib.hid (And.intro hn trivial)
  clear hn
  unfold ptrV at *
  go_wp2_with fail
  refine HLn.out.mono ?_
  rintro e w' ⟨rfl, hww⟩
  rw [← hww]
  clear hww w'
  go_upto_region 8 with (fail)
  have HFb := Lib.hid (HF1.out w3.drew (HC.out w3.drew (belowN HB3.out 1)))
  refine wp_region_text ⟨[8, 9], [], 9⟩ (fun w' => ∃ x : X1, w' = f x) (by kernel_rfl) (by kernel_rfl) HFb.out ?_
  refine wpC_seg false (HFb.out) 8 0 _ _ (by rfl) (by rfl) ?_
  simp only [List.take_succ_cons, List.take_zero, List.drop_succ_cons, List.drop_zero, Bool.false_eq_true, if_false, Nat.zero_add, Nat.reduceAdd]
  repeat (go_big_quiet_step (fail))
  refine wpQuiet_nil ?_
  refine wpC_loud (by rfl) (by rfl) fun K hK => ?_
  go_wp2_with fail
  refine (clone_any ((HP.out.below HB3.out).below (belowN (Below.refl w3.heap.size w3) 1)) (by simp at ek; omega) HX.out.2.2.1).mono ?_
  rintro e w4 ⟨b, c', rfl, hpr, hb, b4⟩
  have HB4 := Lib.hid ((belowN HB3.out 1).trans (b4.mono (belowN HB3.out 1).size))
  have HF4 := Lib.hid (HF1.out w4 (HC.out w4 HB4.out))
  refine hK _ _ (fun _ => HF4.out) ?_
  have HPr := Lib.hid (And.intro hpr hb)
  clear hK b4 hpr hb
  refine wpC_loud (by rfl) (by rfl) fun K hK => ?_
  go_wp2_with fail
  have ht4 := (HH1.out.below HB4.out).tree
  refine (radPut ht4 HX.out.1 HX.out.2.1 (some ⟨b, 0, none⟩, k, c') (by have := HN.out.1; omega)).mono ?_
  rintro e w5 ⟨rfl, G', t5, fr5, c5⟩
  rw [HBO.out.1, HBO.out.2] at t5
  rw [HBO.out.1]
  refine hK _ _ (fun h => absurd h (by decide)) ?_
  clear hK
  refine wpC_nil ?_
  have hG := HH.out.tree.1
  have hls := HLs.out.1
  have hb1s := HB1.out.size
  have hb3s := HB3.out.size
  have hb4s := HB4.out.size
  have hs4 := (HB4.out.block s (by omega)).trans HH1.out.head
  have hs5 := c5.keep hs4 HH.out.own
  have he4 := (HB4.out.block _ (heap_lt HX.out.2.2.2)).trans HX.out.2.2.2
  have he5 := c5.keep he4 (fun hg => by have := hG _ hg; omega)
  have h6 := setCell_head hs5 1 (.int .u64 im)
  have h7 := setCell_head h6 2 (.int .u64 iq)
  have z0 := cell_in he5 (i := 0) rfl
  have z1 := cell_in he5 (i := 1) rfl
  have y1 := cell_in hs5 (i := 1) rfl
  have y2 := cell_in h6 (i := 2) rfl
  have fr1 := frozen_in hs5 1
  have fr2 := frozen_in h6 2
  obtain ⟨w7, hw7⟩ : ∃ w7, w7 = (w5.setCell ⟨s, 1, none⟩ (.int .u64 im)).setCell ⟨s, 2, none⟩ (.int .u64 iq) := ⟨_, rfl⟩
  have hhd : w7.heap[s]? = some (.cells #[ptrV p, .int .u64 im, .int .u64 iq] 53 (0, 0)) := by rw [hw7]; exact h7
  have cS : Chg (fun j => j = s) w5 w7 := by rw [hw7]; exact (Chg.setCell (fun j => j = s) w5 _ _ rfl).trans (Chg.setCell (fun j => j = s) _ _ _ rfl) fun _ h _ => h
  have hbb : w.heap.size ≤ b ∧ b < w4.heap.size := by
    have h1 := HPr.out.2
    simp at h1
    obtain ⟨b', o', e, hlt, _⟩ := HPr.out.1.cells (i := 0) (by simp at ek; omega)
    cases e
    exact ⟨by omega, hlt⟩
  have hfr : ∀ j, G' j → G j ∨ w.heap.size ≤ j := fun j hj => (fr5 j hj).imp id fun h => by omega
  have hG's : ∀ j, G' j → j ≠ s := fun j hj e => by
    rcases fr5 j hj with h | h
    · rw [e] at h; exact HH.out.own h
    · omega
  have hG'b : ¬ G' b := fun hj => by
    rcases fr5 b hj with h | h
    · have := hG _ h; omega
    · omega
  have HE := Lib.hid (show StmF w7 s p G' (putO T (idBytes im iq) (some ⟨b, 0, none⟩, k, c')) N' im iq ∧ PairRow w7 (some ⟨b, 0, none⟩) k c' L ∧ w.heap.size ≤ b ∧ ¬ G' b ∧ (∀ j, G' j → G j ∨ w.heap.size ≤ j) ∧ Chg (fun j => G j ∨ j = s) w w7 from
    ⟨⟨hhd, t5.chg cS hG's, fun hj => hG's _ hj rfl, HX.out.1, HX.out.2.1⟩,
      (HPr.out.1.chg c5 (fun b' o' e h => by cases e; have := hG _ h; omega)).chg cS (fun b' o' e h => by cases e; omega),
      hbb.1, hG'b, hfr,
      ((Chg.of_below (fun j => G j ∨ j = s) (HB1.out.trans (HB4.out.mono HB1.out.size))).trans c5 fun j h _ => .inl h).trans cS fun j h _ => .inr h⟩)
  have HW7 := Lib.hid hw7
  clear f1 f2 f3 f4 f5 f6 hX1 HF1 HFa HFb HF2 HF4 f hw7 hhd cS hG hs4 hs5 he4 he5 h6 h7 t5 fr5 c5 ht4 hfr hG's hG'b hbb d0 d1 d2 d3
  go_wp2_with fail
  rw [← HW7.out]
  go_ret
  exact ⟨rfl, _, _, _, HE.out⟩
end Go.Proofs.YtbjpfnafhhbmaaaDoor

/- (*stream.Stream).Next. -/
namespace Go.Proofs.YtbjpfnafhhbmaaaDoor
set_option linter.unusedVariables false
set_option linter.unusedSimpArgs false
open Go.RowKit Sad
def nextN (ms q : Nat) (now : Int) : (Nat × Nat) × Bool :=
  if lessN (ms, q) (now.toNat, 0) then ((now.toNat, 0), true)
  else if q < 18446744073709551615 then ((ms, q + 1), true)
  else if ms < 18446744073709551615 then ((ms + 1, 0), true)
  else ((0, 0), false)
set_option maxHeartbeats 6400000 in
set_option maxRecDepth 100000 in
theorem stmNext {w : World} {s p : Nat} {G : Nat → Prop} {T : Option RT} {n ms q : Nat} (h : StmF w s p G T n ms q) {now : Int} (hlo : -9223372036854775808 ≤ now) (hhi : now ≤ 9223372036854775807) :
    Calls Tryd.prog 23 #[ptrV s, .int .i64 now] w fun e w' => e = .returned (.tuple #[.agg #[.int .u64 (nextN ms q now).1.1, .int .u64 (nextN ms q now).1.2], .bool (nextN ms q now).2]) ∧ Below w.heap.size w w' := by
  obtain ⟨w1, hw1⟩ : ∃ w1, w1 = w.alloc (.cells #[.int .u64 0, .int .u64 0] 24) := ⟨_, rfl⟩
  have hb1 : Below w.heap.size w w1 := by rw [hw1]; exact (Below.refl _ _).alloc (Nat.le_refl _) _
  have hh1 : w1.heap[w.heap.size]? = some (.cells #[.int .u64 0, .int .u64 0] 24 (0, 0)) := by rw [hw1]; exact heap_new _ _
  have h1 := h.below hb1
  have HT := Lib.hid (stmThere h1)
  obtain ⟨u, hu⟩ : ∃ u, now.toNat = u := ⟨_, rfl⟩
  have hmx : max now 0 = (u : Int) := by omega
  have hwr : IntKind.u64.wrap (max now 0) = (u : Int) := by rw [hmx, IntKind.wrap_u64]; omega
  have hwr2 : IntKind.u64.wrap (u : Int) = (u : Int) := by rw [IntKind.wrap_u64]; omega
  have hz1 : w1.heap.size = w.heap.size + 1 := by rw [hw1]; simp
  obtain ⟨w2, hw2⟩ : ∃ w2, w2 = (w.alloc (.cells #[.int .u64 0, .int .u64 0] 24)).alloc (.cells #[.int .u64 u, .int .u64 0] 24) := ⟨_, rfl⟩
  have hb2 : Below w.heap.size w w2 := by rw [hw2]; exact ((Below.refl _ _).alloc (Nat.le_refl _) _).alloc (by simp) _
  have hh2 : w2.heap[w.heap.size + 1]? = some (.cells #[.int .u64 u, .int .u64 0] 24 (0, 0)) := by rw [hw2, ← hw1, ← hz1]; exact heap_new _ _
  have hh0 : w2.heap[w.heap.size]? = some (.cells #[.int .u64 0, .int .u64 0] 24 (0, 0)) := by rw [hw2, ← hw1]; exact heap_old hh1 _
  have hlt0 := heap_lt hh0
  have hlt2 := heap_lt hh2
  have h2 := h.below hb2
  have HC := Lib.hid (show ∀ w', Below w2.heap.size w2 w' → (w'.cell? ⟨s, 1, none⟩ = some (.int .u64 ms) ∧ w'.cell? ⟨s, 2, none⟩ = some (.int .u64 q)) ∧ w'.cell? ⟨w.heap.size + 1, 0, none⟩ = some (.int .u64 u) ∧ w'.cell? ⟨w.heap.size + 1, 1, none⟩ = some (.int .u64 (0 : Nat)) from fun w' hb => by
    have e1 := (hb.block _ (heap_lt h2.head)).trans h2.head
    have e2 := (hb.block _ hlt2).trans hh2
    exact ⟨⟨cell_in e1 rfl, cell_in e1 rfl⟩, cell_in e2 rfl, cell_in e2 rfl⟩)
  have HBl := Lib.hid (fun w' => stmBelow ms q u 0 w')
  have HEnd : Hid (∀ w' x y, Below w2.heap.size w2 w' → (((w'.setCell ⟨w.heap.size, 0, none⟩ x).setCell ⟨w.heap.size, 1, none⟩ y).cell? ⟨w.heap.size, 0, none⟩ = some x ∧ ((w'.setCell ⟨w.heap.size, 0, none⟩ x).setCell ⟨w.heap.size, 1, none⟩ y).cell? ⟨w.heap.size, 1, none⟩ = some y) ∧ Below w.heap.size w ((w'.setCell ⟨w.heap.size, 0, none⟩ x).setCell ⟨w.heap.size, 1, none⟩ y)) := Lib.hid fun w' x y hb => by
    have h0 := (hb.block _ hlt0).trans hh0
    have h1 := setCell_head h0 0 x
    have h2 := setCell_head h1 1 y
    have bb := hb2.trans (hb.mono hb2.size)
    exact ⟨⟨cell_in h2 rfl, cell_in h2 rfl⟩, (bb.setCell (Nat.le_refl _) _).setCell (Nat.le_refl _) _⟩
  have HOld : Hid (∀ w', Below w2.heap.size w2 w' → (w'.cell? ⟨w.heap.size, 0, none⟩ = some (.int .u64 0) ∧ w'.frozen? ⟨w.heap.size, 0, none⟩ = false) ∧ ∀ x, (w'.setCell ⟨w.heap.size, 0, none⟩ x).cell? ⟨w.heap.size, 1, none⟩ = some (.int .u64 0) ∧ (w'.setCell ⟨w.heap.size, 0, none⟩ x).frozen? ⟨w.heap.size, 1, none⟩ = false) := Lib.hid fun w' hb => by
    have h0 := (hb.block _ hlt0).trans hh0
    exact ⟨⟨cell_in h0 rfl, frozen_in h0 0⟩, fun x => ⟨cell_in (setCell_head h0 0 x) rfl, frozen_in (setCell_head h0 0 x) 1⟩⟩
  have hms := h.ms_lt
  have hq := h.q_lt
  have hnx : nextN ms q now = if lessN (ms, q) (u, 0) then ((u, 0), true) else if q < 18446744073709551615 then ((ms, q + 1), true) else if ms < 18446744073709551615 then ((ms + 1, 0), true) else ((0, 0), false) := by unfold nextN; rw [hu]
  obtain ⟨y, hy⟩ : ∃ y, lessN (ms, q) (u, 0) = y := ⟨_, rfl⟩
  rw [hy] at HBl hnx
  obtain ⟨c0, c1⟩ := HC.out w2 (Below.refl _ _)
  obtain ⟨X1, f, hX1, hf, hF⟩ := classOf (fun x => (x.cell? ⟨s, 1, none⟩ = some (.int .u64 ms) ∧ x.cell? ⟨s, 2, none⟩ = some (.int .u64 q)) ∧ x.cell? ⟨w.heap.size + 1, 0, none⟩ = some (.int .u64 u) ∧ x.cell? ⟨w.heap.size + 1, 1, none⟩ = some (.int .u64 (0 : Nat))) (w := w2) ⟨c0, c1⟩
  have f1 := fun x => (hf x).1.1
  have f2 := fun x => (hf x).1.2
  have f3 := fun x => (hf x).2.1
  have f4 := fun x => (hf x).2.2
  have HF1 := Lib.hid hF
  have HFa := Lib.hid (hF w2.drew ⟨c0, c1⟩)
  have HW := Lib.hid hw1
  have HW2 := Lib.hid hw2
  have HNX := Lib.hid (And.intro hnx (And.intro hms hq))
  obtain ⟨N, hN⟩ : ∃ N, nextN ms q now = N := ⟨_, rfl⟩
  rw [hN] at HNX ⊢
  clear hF hf h h1 h2 hw1 hw2 hb1 hb2 hh0 hh1 hh2 hlt0 hlt2 hu hmx hy c0 c1 hms hq hnx hN hlo hhi hz1
  unfold ptrV at *
  go_enter Tryd.func23, Tryd.ntmps23
  go_wp2_with fail
  rw [← HW.out]
  refine HT.out.mono ?_
  rintro e w' ⟨rfl, hww⟩
  rw [hww, HW.out]
  clear hww w'
  go_upto_region 4 with (fail)
  rw [← HW2.out]
  refine wp_region_text ⟨[5], [6], 5⟩ (fun w' => ∃ x : X1, w' = f x) (by kernel_rfl) (by kernel_rfl) HFa.out ?_
  refine wpC_seg false (HFa.out) 5 0 _ _ (by rfl) (by rfl) ?_
  simp only [List.take_succ_cons, List.take_zero, List.drop_succ_cons, List.drop_zero, Bool.false_eq_true, if_false, Nat.zero_add, Nat.reduceAdd]
  repeat (go_big_quiet_step (fail))
  refine wpQuiet_nil ?_
  refine wpC_loud (by rfl) (by rfl) fun K hK => ?_
  go_wp2_with fail
  refine (HBl.out _).mono ?_
  rintro e w3 ⟨rfl, b3⟩
  have HB3 := Lib.hid ((belowN (Below.refl w2.heap.size w2) 1).trans b3)
  refine hK _ _ (fun h => absurd h (by decide)) ?_
  clear hK b3
  refine wpC_segD 1 6 _ _ (by rfl) (by rfl) ?_
  simp only [List.take_succ_cons, List.take_zero, List.drop_succ_cons, List.drop_zero, if_true, Nat.zero_add, Nat.reduceAdd]
  repeat (go_big_quiet_step (fail))
  refine wpQuiet_nil ?_
  refine wpC_nil ?_
  clear hwr hwr2
  cases y
  case' true =>
    have hN := HNX.out.1
    simp only [if_true] at hN
    subst hN
    obtain ⟨⟨d1, d2⟩, d3, d4⟩ := HC.out w3 HB3.out
    obtain ⟨⟨q0, g0⟩, hq1⟩ := HOld.out w3 HB3.out
    clear f1 f2 f3 f4 hX1 HF1 HFa f
    go_wp2_with fail
    exact bodyPost_ret (v := .tuple #[.agg #[.int .u64 u, .int .u64 (0 : Nat)], .bool true]) (by have h := (HEnd.out w3 (.int .u64 u) (.int .u64 (0 : Nat)) HB3.out).1; simp at h; simp [results, Tryd.results23, go_sem, h.1, h.2]) rfl ⟨rfl, (HEnd.out w3 _ _ HB3.out).2⟩
  case' false =>
    have hN := HNX.out.1
    have hms := HNX.out.2.1
    rcases Nat.lt_or_ge q 18446744073709551615 with hq | hq
    · have eq1 : decide ((q : Int) < 18446744073709551615) = true := decide_eq_true (by omega)
      have eq1' : decide (q < 18446744073709551615) = true := decide_eq_true (by omega)
      have hwq : IntKind.u64.wrap ((q : Int) + 1) = ((q + 1 : Nat) : Int) := by rw [IntKind.wrap_u64]; omega
      simp only [Bool.false_eq_true, if_false, if_pos hq] at hN
      subst hN
      clear hq hms HNX
      obtain ⟨⟨d1, d2⟩, d3⟩ := HC.out w3 HB3.out
      go_upto_region 7 with (fail)
      have HB4 := Lib.hid (belowN HB3.out 1)
      have HFb := Lib.hid (HF1.out w3.drew (HC.out w3.drew HB4.out))
      obtain ⟨⟨q0, g0⟩, hq1⟩ := HOld.out w3 HB3.out
      refine wp_region_text ⟨[12], [13], 12⟩ (fun w' => ∃ x : X1, w' = f x) (by kernel_rfl) (by kernel_rfl) HFb.out ?_
      refine wpC_seg false (HFb.out) 12 0 _ _ (by rfl) (by rfl) ?_
      simp only [List.take_succ_cons, List.take_zero, List.drop_succ_cons, List.drop_zero, Bool.false_eq_true, if_false, Nat.zero_add, Nat.reduceAdd]
      repeat (go_big_quiet_step (fail))
      refine wpQuiet_nil ?_
      clear eq1 eq1' hwq
      refine wpC_loud (by rfl) (by rfl) fun K hK => ?_
      go_wp2_with fail
      refine hK _ _ (fun h => absurd h (by decide)) ?_
      clear hK
      refine wpC_segD 1 13 _ _ (by rfl) (by rfl) ?_
      simp only [List.take_succ_cons, List.take_zero, List.drop_succ_cons, List.drop_zero, if_true, Nat.zero_add, Nat.reduceAdd]
      repeat (go_big_quiet_step (fail))
      refine wpQuiet_nil ?_
      refine wpC_nil ?_
      clear f1 f2 f3 f4 hX1 HF1 HFa HFb f
      go_wp2_with fail
      exact bodyPost_ret (v := .tuple #[.agg #[.int .u64 ms, .int .u64 ((q + 1 : Nat) : Int)], .bool true]) (by have h := (HEnd.out w3 (.int .u64 ms) (.int .u64 ((q + 1 : Nat) : Int)) HB3.out).1; simp at h; simp [results, Tryd.results23, go_sem, h.1, h.2]) rfl ⟨rfl, belowN (HEnd.out w3 _ _ HB3.out).2 1⟩
    · have eq1 : decide ((q : Int) < 18446744073709551615) = false := decide_eq_false (by omega)
      have eq1' : decide (q < 18446744073709551615) = false := decide_eq_false (by omega)
      simp only [Bool.false_eq_true, if_false, if_neg (show ¬ q < 18446744073709551615 by omega)] at hN
      clear hq
      obtain ⟨⟨d1, d2⟩, d3⟩ := HC.out w3 HB3.out
      obtain ⟨⟨q0, g0⟩, hq1⟩ := HOld.out w3 HB3.out
      rcases Nat.lt_or_ge ms 18446744073709551615 with hm | hm
      · have eq2 : decide ((ms : Int) < 18446744073709551615) = true := decide_eq_true (by omega)
        have eq2' : decide (ms < 18446744073709551615) = true := decide_eq_true (by omega)
        have hwm : IntKind.u64.wrap ((ms : Int) + 1) = ((ms + 1 : Nat) : Int) := by rw [IntKind.wrap_u64]; omega
        simp only [if_pos hm] at hN
        subst hN
        clear hm hms HNX f1 f2 f3 f4 hX1 HF1 HFa f
        go_wp2_with fail
        exact bodyPost_ret (v := .tuple #[.agg #[.int .u64 ((ms + 1 : Nat) : Int), .int .u64 (0 : Nat)], .bool true]) (by have h := (HEnd.out w3 (.int .u64 ((ms + 1 : Nat) : Int)) (.int .u64 (0 : Nat)) HB3.out).1; simp at h; simp [results, Tryd.results23, go_sem, h.1, h.2]) rfl ⟨rfl, (HEnd.out w3 _ _ HB3.out).2⟩
      · have eq2 : decide ((ms : Int) < 18446744073709551615) = false := decide_eq_false (by omega)
        have eq2' : decide (ms < 18446744073709551615) = false := decide_eq_false (by omega)
        simp only [if_neg (show ¬ ms < 18446744073709551615 by omega)] at hN
        subst hN
        clear hm hms HNX f1 f2 f3 f4 hX1 HF1 HFa f
        go_wp2_with fail
        exact bodyPost_ret (v := .tuple #[.agg #[.int .u64 (0 : Nat), .int .u64 (0 : Nat)], .bool false]) (by have h := (HEnd.out w3 (.int .u64 (0 : Nat)) (.int .u64 (0 : Nat)) HB3.out).1; simp at h; simp [results, Tryd.results23, go_sem, h.1, h.2]) rfl ⟨rfl, (HEnd.out w3 _ _ HB3.out).2⟩
end Go.Proofs.YtbjpfnafhhbmaaaDoor

/- ranging over a stream's tree: what the loop may rest on. -/
namespace Go.Proofs.YtbjpfnafhhbmaaaDoor.Sad
open Go.Proofs.YtbjpfnafhhbmaaaDoor
set_option linter.unusedVariables false
set_option linter.unusedSimpArgs false
open Go.RowKit RT Go.Shelf
attribute [local go_sem] Oper.semAt_some
theorem pre_lt {α : Type} {pre l : List α} {x : α} (h : pre ++ [x] <+: l) : pre.length < l.length := by
  have := h.length_le
  simp at this
  omega
theorem radStops {w : World} {p bt bi ms seq n : Nat} {G : Nat → Prop} {T : Option RT} (h : TreeF w p G T n) (h1 : ms < 18446744073709551616) (h2 : seq < 18446744073709551616) (hbt : w.cell? ⟨bt, 0, none⟩ = some (.pointer (some ⟨p, 0, none⟩))) (hbi : w.heap[bi]? = some (.cells #[.int .u64 ms, .int .u64 seq] 24 (0, 0))) (hnodes : nodesO T ≤ 1000000) (m : Nat) :
    SeqStopsK Fence.wide m Tryd.prog 60 #[.pointer (some ⟨bt, 0, none⟩), .pointer (some ⟨bi, 0, none⟩)] encs KeepE (fun xs => xs = toldL T (idBytes ms seq)) (fun pre => pre <+: toldL T (idBytes ms seq)) (toldL T (idBytes ms seq)).length w := by
  intro l J Jx W hW hJ _ hY h0
  have hblt := World.block_lt_of_cell? w _ hbt
  have hilt := heap_lt hbi
  have hbi' := (hW.block bi hilt).trans hbi
  refine callsIn_wide.2 (radIter1 (h.below hW) h1 h2 ((hW.cell (p := ⟨bt, 0, none⟩) hblt).trans hbt) (cell_in hbi' rfl) (cell_in hbi' rfl) hbi' hnodes J Jx hJ (fun pre x W1 hj hp => hY pre x W1 hj (pre_lt hp)) h0)
/-- The same, where the loop knows of each thing told that it is one of those that are told. -/
theorem radStopsM {w : World} {p bt bi ms seq n : Nat} {G : Nat → Prop} {T : Option RT} (h : TreeF w p G T n) (h1 : ms < 18446744073709551616) (h2 : seq < 18446744073709551616) (hbt : w.cell? ⟨bt, 0, none⟩ = some (.pointer (some ⟨p, 0, none⟩))) (hbi : w.heap[bi]? = some (.cells #[.int .u64 ms, .int .u64 seq] 24 (0, 0))) (hnodes : nodesO T ≤ 1000000) (m : Nat) :
    SeqStopsK (α := { x // x ∈ toldL T (idBytes ms seq) }) Fence.wide m Tryd.prog 60 #[.pointer (some ⟨bt, 0, none⟩), .pointer (some ⟨bi, 0, none⟩)] (fun x => encs x.1) KeepE (fun xs => xs.map (·.1) = toldL T (idBytes ms seq)) (fun pre => pre.map (·.1) <+: toldL T (idBytes ms seq)) (toldL T (idBytes ms seq)).length w := by
  intro l J Jx W hW hJ _ hY h0
  have hblt := World.block_lt_of_cell? w _ hbt
  have hilt := heap_lt hbi
  have hbi' := (hW.block bi hilt).trans hbi
  refine callsIn_wide.2 ((radIter1 (h.below hW) h1 h2 ((hW.cell (p := ⟨bt, 0, none⟩) hblt).trans hbt) (cell_in hbi' rfl) (cell_in hbi' rfl) hbi' hnodes (fun xs W => ∃ ys, ys.map (·.1) = xs ∧ J ys W) (fun xs W => ∃ ys, ys.map (·.1) = xs ∧ Jx ys W) (fun s W W' row => by
    rintro ⟨ys, e, hj⟩ hg hr
    exact ⟨ys, e, hJ ys W W' row hj hg hr⟩) (fun pre x W1 => by
    rintro ⟨ys, rfl, hj⟩ hp
    have hx : x ∈ toldL T (idBytes ms seq) := hp.subset (by simp)
    have hl := pre_lt hp
    rw [List.length_map] at hl
    refine (hY ys ⟨x, hx⟩ W1 hj hl).mono ?_
    rintro e W' (⟨rfl, hj', hk⟩ | ⟨rfl, hj'⟩)
    · exact .inl ⟨rfl, ⟨_, by simp, hj'⟩, hk⟩
    · exact .inr ⟨rfl, _, by simp, hj'⟩) ⟨[], rfl, h0⟩).mono ?_)
  rintro e W' ⟨hv, ⟨xs, rfl, ys, hys, hj⟩ | ⟨pre, hp, ys, rfl, hj⟩⟩
  · exact ⟨hv, .inl ⟨ys, hys, hj⟩⟩
  · exact ⟨hv, .inr ⟨ys, hp, hj⟩⟩
theorem keepsFrom_of {W W' : World} {S : Nat → Prop} (B : Nat) (h : Chg S W W') (hs : ∀ k, S k → ∀ o, W.heap[k]? = some o → o.isCells = true) : KeepsFrom B W W' :=
  ⟨h.size, fun k o _ hk ho => h.keep hk fun hS => by rw [hs k hS o hk] at ho; cases ho⟩
theorem grown_keep {W W' : World} {row : Option Nat} (hg : W.grownBy W' row) (hr : ∀ r, row = some r → ∃ o : Obj, W.heap[r]? = some o ∧ o.isCells = false) {k : Nat} {cs : Array Value} {E : TypeId} {fz : Nat × Nat} (hk : W.heap[k]? = some (.cells cs E fz)) : W'.heap[k]? = some (.cells cs E fz) := by
  rw [hg.block k (heap_lt hk) (fun e => by
    obtain ⟨o, ho, hc⟩ := hr k e.symm
    rw [hk] at ho; cases ho; cases hc)]
  exact hk
theorem grown_slice {W W' : World} {row : Option Nat} (hg : W.grownBy W' row) (hr : ∀ r, row = some r → ∃ o : Obj, W.heap[r]? = some o ∧ o.isCells = false) {B : Nat} {e : TypeId} {z n : Nat} {v : Value} {xs : List Value} (h : SliceN W B e z v n xs) : SliceN W' B e z v n xs := by
  refine ⟨h.1, h.2.imp id ?_⟩
  rintro ⟨g, cap, cur, rfl, h2, ⟨fz, h3, h4⟩, h5⟩
  exact ⟨g, cap, cur, rfl, h2, ⟨fz, h3, grown_keep hg hr h4⟩, h5⟩
theorem grown_below {W W' w : World} {row : Option Nat} {n₀ B : Nat} (hb : Below n₀ w W) (hg : W.grownBy W' row) (hr : ∀ r, row = some r → B ≤ r) (hn : n₀ ≤ B) (hs : n₀ ≤ W.heap.size) : Below n₀ w W' :=
  hb.trans ⟨hg.os, hg.tape, hg.output, hg.size, fun k hk => hg.block k (by omega) fun e => by have := hr k e.symm; omega⟩
theorem wpListIn_append_run {F : Fence} {n : Nat} {P : Program} {ops : Array Oper} {Q : Exit → Act → World → Prop} {rest : List Oper} {o : Oper} {a : Act} {w w' : World} {s x : Operand} {t u : TypeId} {v : Value} (hg : o.guard = none)
    (hop : o.op = .call { callee := .builtin .append, args := #[s, x], argTypes := #[t, u] }) (hr : (Builtin.append_ #[t, u] o.type #[a.eval s, a.eval x]).run P w = .ok v w')
    (h : wpListIn F n P ops Q rest (a.put o.dst v) w') : wpListIn F n P ops Q (o :: rest) a w := by
  refine wpListIn_plain hg fun K hK' => ?_
  unfold Oper.wpIn
  refine ⟨?_, ?_⟩
  · simp [Oper.about, hop, resolve, Target.leads, Sem.run_pure]
  · rw [Oper.semAt_plain F _ _ (by rw [hop]; intro c hc'; cases hc')]
    rw [exec_append hop hr]
    exact hK' _ _ h
end Go.Proofs.YtbjpfnafhhbmaaaDoor.Sad

/- (*stream.Stream).Charge: what entries cost, plain law. -/
namespace Go.Proofs.YtbjpfnafhhbmaaaDoor.Sad
open Go.Proofs.YtbjpfnafhhbmaaaDoor
set_option linter.unusedVariables false
set_option linter.unusedSimpArgs false
open Go.RowKit RT Go.Shelf
def pairsCost (L : List PairT) : Nat := (L.map fun p => 16 + p.1.size + p.2.size).foldl (· + ·) 0
/-- What the entries cost whose rows hold these pairs. -/
def costOf (R : Nat × Nat × VT → List PairT) (xs : List (Nat × Nat × VT)) : Nat := (xs.map fun x => 32 + pairsCost (R x)).foldl (· + ·) 0
theorem foldl_add : ∀ (l : List Nat) (a : Nat), l.foldl (· + ·) a = a + l.foldl (· + ·) 0
  | [], a => by simp
  | x :: l, a => by
    rw [List.foldl_cons, List.foldl_cons, foldl_add l (a + x), foldl_add l (0 + x)]
    omega
theorem costOf_append (R : Nat × Nat × VT → List PairT) (pre : List (Nat × Nat × VT)) (x : Nat × Nat × VT) : costOf R (pre ++ [x]) = costOf R pre + (32 + pairsCost (R x)) := by
  simp [costOf, List.foldl_append]
theorem pairsCost_append (L : List PairT) (p : PairT) : pairsCost (L ++ [p]) = pairsCost L + (16 + p.1.size + p.2.size) := by
  simp [pairsCost, List.foldl_append]
end Go.Proofs.YtbjpfnafhhbmaaaDoor.Sad

/- (*stream.Stream).Charge. -/
namespace Go.Proofs.YtbjpfnafhhbmaaaDoor.Sad
open Go.Proofs.YtbjpfnafhhbmaaaDoor
set_option linter.unusedVariables false
set_option linter.unusedSimpArgs false
open Go.RowKit RT Go.Shelf
attribute [local go_sem] Oper.semAt_some
/-- The rows of these entries hold these pairs. -/
def RowsOf (w : World) (R : Nat × Nat × VT → List PairT) (xs : List (Nat × Nat × VT)) : Prop := ∀ x ∈ xs, PairRow w x.2.2.1 x.2.2.2.1 x.2.2.2.2 (R x) ∧ x.2.2.2.1 ≤ 281474976710656
theorem RowsOf.below {w w' : World} {R : Nat × Nat × VT → List PairT} {xs : List (Nat × Nat × VT)} (h : RowsOf w R xs) (hb : Below w.heap.size w w') : RowsOf w' R xs := fun x hx => ⟨(h x hx).1.below hb, (h x hx).2⟩
/-- What Charge has counted. -/
def Sum {α : Type} (w : World) (n₀ Bs : Nat) (c : List α → Nat) (pre : List α) (W : World) : Prop :=
  Below n₀ w W ∧ n₀ ≤ W.heap.size ∧ W.heap[Bs]? = some (.cells #[.int .i64 (c pre : Nat)] 2 (0, 0))
theorem Sum.own {α : Type} (w : World) (n₀ Bs B : Nat) (c : List α → Nat) (hB : n₀ ≤ B) : OwnFrom B (Sum w n₀ Bs c) := by
  rintro pre W W' row ⟨h1, h2, h3⟩ hg hr
  exact ⟨grown_below h1 hg (fun r e => (hr r e).1) hB h2, Nat.le_trans h2 hg.size, grown_keep hg (fun r e => (hr r e).2) h3⟩
/-- The frame of a round. -/
def AxRow (tm : Array Value) (x : Nat × Nat × VT) (a' : Act) (W : World) : Prop :=
  a' = { tmps := ((tm.setIfInBounds 17 (.agg #[.int .u64 x.1, .int .u64 x.2.1])).setIfInBounds 18 (vC x.2.2)).setIfInBounds 5 (vC x.2.2), defers := [] }
theorem foldl_ge (l : List Nat) (a : Nat) : a ≤ l.foldl (· + ·) a := by rw [foldl_add]; omega
theorem costOf_mono (R : Nat × Nat × VT → List PairT) {xs ys : List (Nat × Nat × VT)} (h : xs <+: ys) : costOf R xs ≤ costOf R ys := by
  obtain ⟨t, rfl⟩ := h
  unfold costOf
  rw [List.map_append, List.foldl_append]
  exact foldl_ge _ _
theorem costOf_le {R : Nat × Nat × VT → List PairT} {M : Nat} : ∀ (xs : List (Nat × Nat × VT)), (∀ x ∈ xs, 32 + pairsCost (R x) ≤ M) → costOf R xs ≤ xs.length * M
  | [], _ => by simp [costOf]
  | x :: xs, h => by
    have h1 := costOf_le xs fun y hy => h y (List.mem_cons_of_mem _ hy)
    have h2 := h x (List.mem_cons_self ..)
    unfold costOf at h1 ⊢
    rw [List.map_cons, List.foldl_cons, foldl_add, List.length_cons, Nat.add_mul]
    omega
theorem pairsCost_le {L : List PairT} {k : Nat} : pairsCost (L.take k) ≤ pairsCost L := by
  have h := List.take_append_drop k L
  have e : pairsCost L = pairsCost (L.take k ++ L.drop k) := by rw [h]
  rw [e]
  unfold pairsCost
  rw [List.map_append, List.foldl_append]
  exact foldl_ge _ _
theorem pairsCost_succ {L : List PairT} {k : Nat} (h : k < L.length) : pairsCost (L.take (k + 1)) = pairsCost (L.take k) + (16 + (L.getD k e0).1.size + (L.getD k e0).2.size) := by
  rw [List.take_succ_eq_append_getElem h, pairsCost_append]
  simp [List.getD, h]
set_option maxHeartbeats 3200000 in
set_option maxRecDepth 100000 in
theorem stmCharge {w : World} {s p : Nat} {G : Nat → Prop} {T : Option RT} {n ms q : Nat} (h : StmF w s p G T n ms q) {R : Nat × Nat × VT → List PairT} (hR : RowsOf w R (toldL T (idBytes 0 0))) {M : Nat} (hM : ∀ x ∈ toldL T (idBytes 0 0), 32 + pairsCost (R x) ≤ M) (hc : (toldL T (idBytes 0 0)).length * M ≤ 281474976710656) (hnodes : nodesO T ≤ 1000000) :
    Calls Tryd.prog 31 #[ptrV s] w fun e w' => e = .returned (.int .i64 (costOf R (toldL T (idBytes 0 0)) : Nat)) ∧ Below w.heap.size w w' := by
  obtain ⟨w1, hw1⟩ : ∃ w1, w1 = w.alloc (.cells #[.int .i64 0] 2) := ⟨_, rfl⟩
  have hb1 : Below w.heap.size w w1 := by rw [hw1]; exact (Below.refl _ _).alloc (Nat.le_refl _) _
  have hl1 : w1.heap[w.heap.size]? = some (.cells #[.int .i64 0] 2 (0, 0)) := by rw [hw1]; exact heap_new _ _
  have hs1 : w1.heap.size = w.heap.size + 1 := by rw [hw1]; simp
  have h1 := h.below hb1
  obtain ⟨w3, hw3⟩ : ∃ w3, w3 = (w1.alloc (.cells #[.pointer (some ⟨p, 0, none⟩)] 51)).alloc (.cells #[.int .u64 (0 : Nat), .int .u64 (0 : Nat)] 24) := ⟨_, rfl⟩
  have hb3 : Below w.heap.size w w3 := by rw [hw3]; exact (hb1.alloc (by omega) _).alloc (by simp; omega) _
  have hs3 : w3.heap.size = w.heap.size + 3 := by rw [hw3]; simp [hs1]
  have hl3 : w3.heap[w.heap.size]? = some (.cells #[.int .i64 0] 2 (0, 0)) := by rw [hw3]; exact heap_old (heap_old hl1 _) _
  have hbt3 : w3.cell? ⟨w1.heap.size, 0, none⟩ = some (.pointer (some ⟨p, 0, none⟩)) := by rw [hw3]; exact cell_in (heap_old (heap_new _ _) _) rfl
  have hbi3 : w3.heap[w1.heap.size + 1]? = some (.cells #[.int .u64 (0 : Nat), .int .u64 (0 : Nat)] 24 (0, 0)) := by
    rw [hw3]
    have := heap_new (w1.alloc (.cells #[.pointer (some ⟨p, 0, none⟩)] 51)) (.cells #[.int .u64 (0 : Nat), .int .u64 (0 : Nat)] 24)
    rw [World.size_alloc] at this
    exact this
  rw [hs1] at hbt3 hbi3
  have HF := Lib.hid (show Calls Tryd.prog 36 #[.pointer (some ⟨p, 0, none⟩), .agg #[.int .u64 0, .int .u64 0]] w1 fun e w' => e = .returned (.func (.func 60) #[] #[.pointer (some ⟨w1.heap.size, 0, none⟩), .pointer (some ⟨w1.heap.size + 1, 0, none⟩)]) ∧ w' = w3 by rw [hw3]; exact radFrom w1 p 0 0)
  have HT := Lib.hid (stmThere h1)
  have HSeq := Lib.hid (radStopsM (ms := 0) (seq := 0) (h.tree.below hb3) (by omega) (by omega) hbt3 hbi3 hnodes 2)
  obtain ⟨Tl, hTl⟩ : ∃ Tl, toldL T (idBytes 0 0) = Tl := ⟨_, rfl⟩
  rw [hTl] at HSeq hR hM hc ⊢
  have HG0 := Lib.hid (show Sum w w.heap.size w.heap.size (fun pre : List { x // x ∈ Tl } => costOf R (pre.map (·.1))) [] w3 from ⟨hb3, by omega, hl3⟩)
  have HRow := Lib.hid (fun W (hb : Below w.heap.size w W) => hR.below hb)
  have HC := Lib.hid (And.intro hc hM)
  have HW1 := Lib.hid hw1
  have HS3 := Lib.hid (And.intro hs3 (heap_lt h.head))
  have c0 := cell_in h1.head (i := 0) rfl
  unfold ptrV at *
  obtain ⟨tm, htm⟩ : ∃ tm : Array Value, tm = #[.pointer (some ⟨s, 0, none⟩), undef, .int .i64 0, .pointer (some ⟨w.heap.size, 0, none⟩), undef, undef, undef, undef, .pointer (some ⟨s, 0, none⟩), .bool true, .bool false, .pointer (some ⟨s, 0, none⟩), .pointer (some ⟨s, 0, none⟩), .pointer (some ⟨s, 0, none⟩), .pointer (some ⟨p, 0, none⟩), .agg #[.int .u64 0, .int .u64 0], .func (.func 60) #[] #[.pointer (some ⟨w.heap.size + 1, 0, none⟩), .pointer (some ⟨w.heap.size + 1 + 1, 0, none⟩)], undef, undef, undef, undef, undef, undef, undef, undef, undef, undef, undef, undef, undef, undef, undef, undef, undef, undef, undef, undef, undef, undef] := ⟨_, rfl⟩
  have HTm := Lib.hid htm
  clear h h1 hb1 hb3 hl1 hl3 hbt3 hbi3 hw1 hw3 hs3 hR hc hM hnodes hTl htm
  refine callsIn_wide.1 (callsIn_of_wp_marks (n := 3) Tryd.func31 rfl trivial ?_ rfl)
  refine wpIn_wide.2 ?_
  simp only [Tryd.ntmps31, List.size_toArray, List.length_cons, List.length_nil, Nat.reduceAdd, Nat.reduceSub, Array.replicate_succ, Array.replicate_zero, List.push_toArray, List.append_toArray, List.nil_append, List.cons_append]
  go_wp2_with fail
  rw [← HW1.out]
  refine HT.out.mono ?_
  rintro e w' ⟨rfl, rfl⟩
  go_wp2_with fail
  refine HF.out.mono ?_
  rintro e w3' ⟨rfl, rfl⟩
  go_wp2_with fail
  refine (wpIn_wide (n := 3)).1 ?_
  refine wpIn_rangeFunc_ownH (α := { x // x ∈ Tl }) (F := Fence.wide) rfl (by omega) (gf := 60) (lb := #[.pointer (some ⟨w.heap.size + 1, 0, none⟩), .pointer (some ⟨w.heap.size + 1 + 1, 0, none⟩)]) rfl trivial (fun args w => rfl) HSeq.out KeepE.trans (fun W l o o' _ hl ho _ => KeepE.putObj W l o o' hl ho) (Below.refl _ _) (fun _ => rfl)
    (Sum w w.heap.size w.heap.size (fun pre : List { x // x ∈ Tl } => costOf R (pre.map (·.1)))) (fun _ _ _ => False) (Sum.own _ _ _ _ _ (by have := HS3.out.1; omega)) (fun _ _ _ _ _ hs _ _ => hs) HG0.out (fun x a' W => AxRow tm x.1 a' W) (fun x a' => fun _ _ _ _ hs _ _ => hs) ?assign ?body ?done ?stop
  case stop =>
    rintro D c pre W _ _ h _
    exact h.elim
  case assign =>
    intro l pre x W K hI hK
    have HI := Lib.hid hI
    unfold encs
    clear hI
    gi_wp2
    refine hK _ _ ⟨Nat.le_refl _, fun k o _ h _ => h⟩ ⟨Nat.le_refl _, fun k cs fz h => h⟩ HI.out ?_
    rw [HTm.out]; rfl
  case body =>
    rintro l pre ⟨⟨xm, xq, av, nv, cv⟩, hx⟩ a' W _ _ hI rfl hlen
    obtain ⟨i1, i2, i3⟩ := hI
    obtain ⟨L, hL⟩ : ∃ L, R (xm, xq, av, nv, cv) = L := ⟨_, rfl⟩
    have hnv := (HRow.out W i1 _ hx).2
    dsimp only at hnv
    have hrow : ∀ W', Below w.heap.size w W' → PairRow W' av nv cv L := fun W' hb => by
      have := (HRow.out W' hb _ hx).1
      rw [hL] at this
      exact this
    have hLl := (hrow W i1).1
    obtain ⟨S0, hS0⟩ : ∃ S0 : Nat, costOf R (pre.map (·.1)) = S0 := ⟨_, rfl⟩
    have hS1 : costOf R ((pre ++ [(⟨(xm, xq, av, nv, cv), hx⟩ : { x // x ∈ Tl })]).map (·.1)) = S0 + (32 + pairsCost L) := by
      rw [List.map_append, List.map_cons, List.map_nil, costOf_append, hS0, hL]
    have hbd : S0 + (32 + pairsCost L) ≤ 281474976710656 := by
      rw [← hS1]
      have h1 := costOf_le (R := R) (M := M) ((pre ++ [(⟨(xm, xq, av, nv, cv), hx⟩ : { x // x ∈ Tl })]).map (·.1)) fun y hy => by
        obtain ⟨z, _, rfl⟩ := List.mem_map.1 hy
        exact HC.out.2 _ z.2
      have h2 := HC.out.1
      have h3 : ((pre ++ [(⟨(xm, xq, av, nv, cv), hx⟩ : { x // x ∈ Tl })]).map (·.1)).length * M ≤ Tl.length * M := Nat.mul_le_mul_right _ (by simp; omega)
      omega
    have i3' : W.heap[w.heap.size]? = some (.cells #[.int .i64 (S0 : Int)] 2 (0, 0)) := by rw [i3]; simp only [hS0]
    have l0 := cell_in i3' (i := 0) rfl
    have lf := frozen_in i3' 0
    obtain ⟨W1, hW1⟩ : ∃ W1, W1 = W.setCell ⟨w.heap.size, 0, none⟩ (.int .i64 ((S0 : Int) + 32)) := ⟨_, rfl⟩
    have h11 : W1.heap[w.heap.size]? = some (.cells #[.int .i64 ((S0 : Int) + 32)] 2 (0, 0)) := by rw [hW1]; exact setCell_head i3' 0 _
    have hc1 : Chg (fun j => j = w.heap.size) W W1 := by rw [hW1]; exact Chg.setCell _ _ _ _ rfl
    have hb1 : Below w.heap.size w W1 := belowChg i1 hc1 i2 fun k hk _ => by omega
    have HI0 := Lib.hid (show Chg (fun j => j = w.heap.size) W W1 ∧ Below w.heap.size w W1 ∧ W1.heap[w.heap.size]? = some (.cells #[.int .i64 ((S0 + 32 + pairsCost (L.take 0) : Nat) : Int)] 2 (0, 0)) from ⟨hc1, hb1, by rw [h11]; simp [pairsCost]⟩)
    have HW1 := Lib.hid hW1
    have HRw := Lib.hid hrow
    have HBd := Lib.hid (And.intro hbd (And.intro hLl hS1))
    have j1 : (S0 : Int) + 32 ≤ 281474976710656 := by omega
    have HI1 := Lib.hid (And.intro i1 (And.intro i2 i3'))
    rw [HTm.out]
    clear i1 i2 i3 i3' hS0 hS1 hbd hL hrow hW1 h11 hc1 hb1 hLl
    simp only [List.setIfInBounds_toArray, List.set_cons_succ, List.set_cons_zero, vC]
    gi_wp2_with fail
    rw [← HW1.out]
    gi_loopw [23] (fun i wr => ∃ k : Nat, k ≤ nv ∧ i = .int .i64 k ∧ Hid (Chg (fun j => j = w.heap.size) W wr ∧ Below w.heap.size w wr ∧ wr.heap[w.heap.size]? = some (.cells #[.int .i64 ((S0 + 32 + pairsCost (L.take k) : Nat) : Int)] 2 (0, 0)))) (fun i _ => nv - (intOf i).toNat)
    case atStart => exact ⟨0, Nat.zero_le _, rfl, HI0⟩
    case round =>
      obtain ⟨k, hk, rfl, hI⟩ := hrel
      by_cases hlt : k < nv
      · obtain ⟨b, o, rfl, hbl, d0, d1⟩ := (HRw.out wr hI.out.2.1).cells hlt
        obtain ⟨f, hf⟩ : ∃ f, (L.getD k e0).1 = f := ⟨_, rfl⟩
        obtain ⟨v, hv⟩ : ∃ v, (L.getD k e0).2 = v := ⟨_, rfl⟩
        obtain ⟨U, hU⟩ : ∃ U : Nat, S0 + 32 + pairsCost (L.take k) = U := ⟨_, rfl⟩
        have hU1 : S0 + 32 + pairsCost (L.take (k + 1)) = U + (16 + (f.size + v.size)) := by
          rw [pairsCost_succ (by rw [HBd.out.2.1]; exact hlt), hf, hv, ← hU]; omega
        have hbd : U + (16 + (f.size + v.size)) ≤ 281474976710656 := by
          have h1 := @pairsCost_le L (k + 1)
          have h2 := HBd.out.1
          omega
        rw [hf] at d0
        rw [hv] at d1
        have hbox := hI.out.2.2
        rw [hU] at hbox
        obtain ⟨W5, hW5⟩ : ∃ W5, W5 = wr.alloc (.cells #[.string f, .string v] 59) := ⟨_, rfl⟩
        have h55 : W5.heap[wr.heap.size]? = some (.cells #[.string f, .string v] 59 (0, 0)) := by rw [hW5]; exact heap_new _ _
        have h50 : W5.heap[w.heap.size]? = some (.cells #[.int .i64 (U : Int)] 2 (0, 0)) := by rw [hW5]; exact heap_old hbox _
        have y0 := cell_in h55 (i := 0) rfl
        have y1 := cell_in h55 (i := 1) rfl
        have y2 := cell_in h50 (i := 0) rfl
        have y3 := frozen_in h50 0
        obtain ⟨W6, hW6⟩ : ∃ W6, W6 = W5.setCell ⟨w.heap.size, 0, none⟩ (.int .i64 ((U : Int) + (16 + ((f.size : Int) + (v.size : Int))))) := ⟨_, rfl⟩
        have h60 : W6.heap[w.heap.size]? = some (.cells #[.int .i64 ((U : Int) + (16 + ((f.size : Int) + (v.size : Int))))] 2 (0, 0)) := by rw [hW6]; exact setCell_head h50 0 _
        have c56 : Chg (fun j => j = w.heap.size) wr W6 := by rw [hW6]; exact ((hW5 ▸ Chg.alloc (fun j => j = w.heap.size) wr _ : Chg (fun j => j = w.heap.size) wr W5)).trans (Chg.setCell _ _ _ _ rfl) fun _ h _ => h.symm
        have HN := Lib.hid (show Chg (fun j => j = w.heap.size) W W6 ∧ Below w.heap.size w W6 ∧ W6.heap[w.heap.size]? = some (.cells #[.int .i64 ((S0 + 32 + pairsCost (L.take (k + 1)) : Nat) : Int)] 2 (0, 0)) from
          ⟨hI.out.1.trans c56 fun _ h _ => h, belowChg hI.out.2.1 c56 hI.out.2.1.size fun k hk _ => by omega, by rw [h60, hU1]; simp⟩)
        have HW5 := Lib.hid hW5
        have HW6 := Lib.hid hW6
        have j2 : (f.size : Int) + (v.size : Int) ≤ 281474976710656 := by omega
        have j3 : 16 + ((f.size : Int) + (v.size : Int)) ≤ 281474976710656 := by omega
        have j4 : (U : Int) + (16 + ((f.size : Int) + (v.size : Int))) ≤ 281474976710656 := by omega
        clear hf hv hU hU1 hbd hbox hW5 h55 h50 hW6 h60 c56 hI hbl hs1 c0 l0 lf
        gi_upto_region 10 with (fail)
        rw [← HW5.out]
        gi_wp2_with fail
        rw [← HW6.out]
        gi_wp2_with fail
        go_roundw
        case rel => exact ⟨k + 1, by omega, by go_num, HN⟩
        case measure => simp [intOf]; omega
      · obtain rfl : k = nv := by omega
        have h0 := hI.out
        rw [List.take_of_length_le (by rw [HBd.out.2.1]; exact Nat.le_refl _)] at h0
        have HFin := Lib.hid (show ownPostG w3'.heap.size KeepE (Sum w w.heap.size w.heap.size (fun pre : List { x // x ∈ Tl } => costOf R (pre.map (·.1)))) (fun _ _ _ => False) (pre ++ [⟨(xm, xq, av, k, cv), hx⟩]) W .normal { tmps := #[], defers := [] } wr from by
          refine ⟨keepsFrom_of _ h0.1 fun k hk o ho => ?_, KeepE.chg h0.1 fun k cs fz hk he => ?_, h0.2.1, h0.2.1.size, ?_⟩
          · subst hk; rw [HI1.out.2.2] at ho; cases ho; rfl
          · subst hk; rw [HI1.out.2.2] at he; cases he
          · rw [h0.2.2]
            have := HBd.out.2.2
            simp only [this, Nat.add_assoc])
        clear h0 hI
        gi_wp2_with fail
        exact HFin.out
  case done =>
    rintro D xs W hD hxs hI hK
    obtain ⟨i1, i2, i3⟩ := hI
    simp only [hxs] at i3
    have l0 := cell_in i3 (i := 0) rfl
    have HI := Lib.hid (And.intro i1 (And.intro i2 i3))
    clear i1 i2 i3
    go_wp2_with fail
    refine ⟨by simp, .inl ⟨_, _, rfl, run_takeDeferred hK, ?_⟩⟩
    refine ⟨_, results_tmp rfl _ _ _, ?_⟩
    obtain ⟨i1, i2, i3⟩ := HI.out
    have hg := grownBy_putObj' W D (.deferred none)
    exact ⟨rfl, grown_below i1 hg (fun r e => by cases e; have := HS3.out.1; omega) (Nat.le_refl _) i2⟩
end Go.Proofs.YtbjpfnafhhbmaaaDoor.Sad

/- the chapter's stream: lives answers true. -/
namespace Go.Proofs.YtbjpfnafhhbmaaaDoor.Sad
open Go.Proofs.YtbjpfnafhhbmaaaDoor
set_option linter.unusedVariables false
set_option linter.unusedSimpArgs false
open Go.RowKit RT Go.Shelf
theorem id_struct : Tryd.prog.underlying 24 = some (.struct (Tryd.prog.fieldsOf 24)) := by kernel_rfl
@[go_sem] theorem eq_id (a b c d : Int) (w : World) : (Op.equalIn 10000 24 (.agg #[.int .u64 a, .int .u64 b]) (.agg #[.int .u64 c, .int .u64 d])).run Tryd.prog w = .ok (a == c && b == d) w := by
  rw [show (10000 : Nat) = 9999 + 1 from rfl, run_equalIn_struct w _ _ _ _ id_struct (by kernel_rfl)]
  have u1 : Tryd.prog.underlying 22 = some (.int .u64) := Tryd.underlying22
  simp only [Program.fieldsOf, Tryd.underlying24]
  simp [Op.eqFields, part, go_sem, u1]
  by_cases h1 : a = c <;> by_cases h2 : b = d <;> simp [h1, h2]
@[go_sem] theorem guard_id (op : BinOp) (w : World) (x y : Operand) (xs ys : Array Value) : (eqGuard op 24 x y (.agg xs) (.agg ys)).run Tryd.prog w = .ok () w := run_eqGuard_agg w op _ x y xs ys (by kernel_rfl)
theorem told_one (v : VT) : toldL (putO none (idBytes 5 0) v) (idBytes 0 0) = [(5, 0, v)] := by rfl
theorem next_one : nextN 5 0 3 = ((5, 1), true) := by decide
theorem idT_one : idT 5 1 = ⟨#[53, 45, 49]⟩ := by
  have h5 : Lib.decDigits 5 = [53] := by rw [Lib.decDigits, dif_pos (by omega)]; rfl
  have h1 : Lib.decDigits 1 = [49] := by rw [Lib.decDigits, dif_pos (by omega)]; rfl
  unfold idT decS
  rw [h5, h1]
  rfl
theorem idS_one_ : idS ⟨#[53, 45, 49]⟩ 0 = ((5, 1), true) := by rw [← idT_one]; exact idS_idT 5 1 0 (by omega) (by omega)
def la : ByteArray := ⟨#[97]⟩
def l1 : ByteArray := ⟨#[49]⟩
theorem pair_row {w w' : World} (h : w' = w.alloc (.cells #[.string ⟨#[97]⟩, .string ⟨#[49]⟩] 59)) : PairRow w' (some ⟨w.heap.size, 0, none⟩) 1 1 [(la, l1)] := by
  have hh : w'.heap[w.heap.size]? = some (.cells #[.string ⟨#[97]⟩, .string ⟨#[49]⟩] 59 (0, 0)) := by rw [h]; exact heap_new _ _
  refine ⟨rfl, by omega, .inr ⟨_, _, rfl, fun i hi => ?_⟩⟩
  obtain rfl : i = 0 := by omega
  exact ⟨cell_in hh rfl, cell_in hh rfl⟩
set_option maxHeartbeats 6400000 in
set_option maxRecDepth 100000 in
theorem lives_any {w : World} (hl : Laid w) : Calls Tryd.prog 13 #[] w fun e w' => e = .returned (.bool true) ∧ Below w.heap.size w w' := by
  have HN := Lib.hid (stmNew w)
  have HL := Lib.hid hl
  clear hl
  go_enter Tryd.func13, Tryd.ntmps13
  go_wp2_with fail
  refine HN.out.mono ?_
  rintro e w1 ⟨s, p, G, rfl, hs1, b1, hn1, hG1⟩
  unfold ptrV
  go_wp2_with fail
  obtain ⟨w2, hw2⟩ : ∃ w2, w2 = w1.alloc (.cells #[.string ⟨#[97]⟩, .string ⟨#[49]⟩] 59) := ⟨_, rfl⟩
  rw [← hw2]
  have hp2 := pair_row hw2
  have b12 : Below w1.heap.size w1 w2 := by rw [hw2]; exact (Below.refl _ _).alloc (Nat.le_refl _) _
  have HA := Lib.hid (addGood (hs1.below b12) hp2 (by omega) (im := 5) (iq := 0) (by omega) (by omega) (by omega) (by decide) (by decide) (by omega))
  have HS2 := Lib.hid (And.intro (b1.trans (b12.mono b1.size)) (And.intro hn1 hG1))
  clear hw2 hp2 b12 hs1 b1 hn1 hG1 HN
  refine HA.out.mono ?_
  rintro e w3 ⟨rfl, G', b, c', hs3, hp3, hb, -, hGG, hc3⟩
  have b3 : Below w.heap.size w w3 := belowChg HS2.out.1 hc3 HS2.out.1.size fun k hk _ => by
    rcases hk with hk | rfl
    · exact HS2.out.2.2 k hk
    · exact HS2.out.2.1
  have hs3' : StmF w3 s p G' (putO none (idBytes 5 0) (some ⟨b, 0, none⟩, 1, c')) 1 5 0 := hs3
  obtain ⟨T, hT⟩ : ∃ T, putO none (idBytes 5 0) (some (⟨b, 0, none⟩ : Addr), 1, c') = T := ⟨_, rfl⟩
  have hTl := told_one (some (⟨b, 0, none⟩ : Addr), 1, c')
  have hnod : nodesO (putO none (idBytes 5 0) (some (⟨b, 0, none⟩ : Addr), 1, c')) ≤ 1000000 := by show 1 ≤ 1000000; omega
  rw [hT] at hs3' hTl hnod
  have HS3 := Lib.hid (And.intro hs3' (And.intro hp3 (And.intro b3 (And.intro hTl hnod))))
  clear hs3 hp3 hb hGG hc3 b3 hs3' hT hTl hnod HA HS2
  go_wp2_with fail
  obtain ⟨w4, hw4⟩ : ∃ w4, w4 = w3.alloc (.cells #[.string ⟨#[97]⟩, .string ⟨#[49]⟩] 59) := ⟨_, rfl⟩
  rw [← hw4]
  have hp4 := pair_row hw4
  have b34 : Below w3.heap.size w3 w4 := by rw [hw4]; exact (Below.refl _ _).alloc (Nat.le_refl _) _
  have HA := Lib.hid (addBad (HS3.out.1.below b34) hp4 (by omega) 5 0 (.inr (.inr (by decide))))
  have HB4 := Lib.hid b34
  clear hw4 hp4 b34
  refine HA.out.mono ?_
  rintro e w5 ⟨rfl, b45⟩
  have HB5 := Lib.hid (HB4.out.trans (b45.mono HB4.out.size))
  clear b45 HA HB4
  have HX := stmNext (HS3.out.1.below HB5.out) (now := 3) (by omega) (by omega)
  rw [next_one] at HX
  have HX := Lib.hid HX
  go_wp2_with fail
  refine HX.out.mono ?_
  rintro e w6 ⟨rfl, b6⟩
  have HB6 := Lib.hid (HB5.out.trans (b6.mono HB5.out.size))
  clear b6 HX HB5
  go_wp2_with fail
  obtain ⟨w7, hw7⟩ : ∃ w7, w7 = w6.alloc (.cells #[.int .u64 5, .int .u64 1] 24) := ⟨_, rfl⟩
  rw [← hw7]
  have b67 : Below w6.heap.size w6 w7 := by rw [hw7]; exact (Below.refl _ _).alloc (Nat.le_refl _) _
  have h77 : w7.heap[w6.heap.size]? = some (.cells #[.int .u64 5, .int .u64 1] 24 (0, 0)) := by rw [hw7]; exact heap_new _ _
  have b7 := HB6.out.trans (b67.mono HB6.out.size)
  have hl7 : Laid w7 := HL.out.below (HS3.out.2.2.1.trans (b7.mono HS3.out.2.2.1.size))
  have HI := id_any ⟨#[53, 45, 49]⟩ 0 (by decide) (by omega) hl7
  rw [idS_one_] at HI
  have HI := Lib.hid HI
  have HB7 := Lib.hid (And.intro b7 (And.intro hl7 h77))
  clear hw7 b67 h77 b7 hl7 HB6
  refine HI.out.mono ?_
  rintro e w8 ⟨rfl, b8⟩
  have HB8 := Lib.hid b8
  clear b8 HI
  go_upto_region 6 with (fail)
  obtain ⟨w9, hw9⟩ : ∃ w9, w9 = w8.alloc (.cells #[.int .u64 5, .int .u64 1] 24) := ⟨_, rfl⟩
  rw [← hw9]
  have b89 : Below w8.heap.size w8 w9 := by rw [hw9]; exact (Below.refl _ _).alloc (Nat.le_refl _) _
  have h99 : w9.heap[w8.heap.size]? = some (.cells #[.int .u64 5, .int .u64 1] 24 (0, 0)) := by rw [hw9]; exact heap_new _ _
  have b79 := HB8.out.trans (b89.mono HB8.out.size)
  have h79 := (b79.block _ (heap_lt HB7.out.2.2)).trans HB7.out.2.2
  have x0 := cell_in h79 (i := 0) rfl
  have x1 := cell_in h79 (i := 1) rfl
  have y0 := cell_in h99 (i := 0) rfl
  have y1 := cell_in h99 (i := 1) rfl
  have b39 := HB7.out.1.trans (b79.mono HB7.out.1.size)
  have HC := stmCharge (R := fun _ => [(la, l1)]) (M := 50) (HS3.out.1.below b39) (fun x hx => by
    rw [HS3.out.2.2.2.1] at hx
    rw [List.mem_singleton.1 hx]
    exact ⟨HS3.out.2.1.below b39, by show 1 ≤ _; omega⟩) (fun x hx => by decide) (by rw [HS3.out.2.2.2.1]; show 1 * 50 ≤ _; omega) HS3.out.2.2.2.2
  rw [HS3.out.2.2.2.1, show costOf (fun _ => [(la, l1)]) [(5, 0, some (⟨b, 0, none⟩ : Addr), 1, c')] = 50 from rfl] at HC
  have HC := Lib.hid HC
  have HX := idText_any 5 1 (by omega) (by omega) (HB7.out.2.1.below b79)
  have b0 := HS3.out.2.2.1.trans (b39.mono HS3.out.2.2.1.size)
  have HB9 := Lib.hid (And.intro (HB7.out.2.1.below b79) (And.intro b0 (And.intro h79 trivial)))
  clear HX hw9 b89 h99 b79 b39 b0 h79
  unfold ptrV at HC
  go_wp2_with fail
  clear x0 x1 y0 y1
  refine HC.out.mono ?_
  rintro e w10 ⟨rfl, b10⟩
  have h10 := (b10.block _ (heap_lt HB9.out.2.2.1)).trans HB9.out.2.2.1
  have x0 := cell_in h10 (i := 0) rfl
  have x1 := cell_in h10 (i := 1) rfl
  have HT := idText_any 5 1 (by omega) (by omega) (HB9.out.1.below b10)
  rw [idT_one] at HT
  have HT' := Lib.hid HT
  have HB10 := Lib.hid (HB9.out.2.1.trans (b10.mono HB9.out.2.1.size))
  clear HT b10 h10
  go_wp2_with fail
  refine HT'.out.mono ?_
  rintro e w11 ⟨rfl, b11⟩
  have HB11 := Lib.hid (HB10.out.trans (b11.mono HB10.out.size))
  clear b11
  go_wp2_with fail
  go_ret
  exact ⟨rfl, HB11.out⟩
end Go.Proofs.YtbjpfnafhhbmaaaDoor.Sad

/- what a tree over pairs tells, in plain Lean: rising identifiers; behind a put and a delete. -/
namespace Go.Proofs.YtbjpfnafhhbmaaaDoor.Sad
open Go.Proofs.YtbjpfnafhhbmaaaDoor
set_option linter.unusedVariables false
set_option linter.unusedSimpArgs false
open Go.RowKit RT Go.Shelf
theorem less_irrefl (a : Nat × Nat) : lessN a a = false := by simp [lessN]
theorem less_trans {a b c : Nat × Nat} (h : lessN a b = true) (k : lessN b c = true) : lessN a c = true := by
  simp only [lessN, decide_eq_true_eq] at *; omega
theorem less_total {a b : Nat × Nat} (h : lessN a b = false) : lessN b a = true ∨ a = b := by
  obtain ⟨a1, a2⟩ := a
  obtain ⟨b1, b2⟩ := b
  simp only [lessN, decide_eq_true_eq, decide_eq_false_iff_not, Prod.mk.injEq] at *; omega
theorem less_asymm {a b : Nat × Nat} (h : lessN a b = true) : lessN b a = false := by
  simp only [lessN, decide_eq_true_eq, decide_eq_false_iff_not] at *; omega
theorem rise_ext2 {α : Type} {r : α → α → Prop} (irr : ∀ x, ¬ r x x) (tr : ∀ x y z, r x y → r y z → r x z) : ∀ {l m : List α}, l.Pairwise r → m.Pairwise r → (∀ x, x ∈ l ↔ x ∈ m) → l = m
  | [], [], _, _, _ => rfl
  | [], y :: m, _, _, h => by have := (h y).2 (by simp); simp at this
  | x :: l, [], _, _, h => by have := (h x).1 (by simp); simp at this
  | x :: l, y :: m, h1, h2, h => by
    rw [List.pairwise_cons] at h1 h2
    have hxy : x = y := by
      have hx := (h x).1 (by simp)
      have hy := (h y).2 (by simp)
      rcases List.mem_cons.1 hx with e | hx
      · exact e
      · rcases List.mem_cons.1 hy with e | hy
        · exact e.symm
        · exact absurd (tr _ _ _ (h1.1 y hy) (h2.1 x hx)) (irr x)
    subst hxy
    congr 1
    refine rise_ext2 irr tr h1.2 h2.2 fun z => ⟨fun hz => ?_, fun hz => ?_⟩
    · rcases List.mem_cons.1 ((h z).1 (by simp [hz])) with e | h'
      · subst e; exact absurd (h1.1 z hz) (irr z)
      · exact h'
    · rcases List.mem_cons.1 ((h z).2 (by simp [hz])) with e | h'
      · subst e; exact absurd (h2.1 z hz) (irr z)
      · exact h'
abbrev Told := Nat × Nat × VT
def idT2 (x : Told) : Nat × Nat := (x.1, x.2.1)
def Rises (l : List Told) : Prop := l.Pairwise fun x y => lessN (idT2 x) (idT2 y) = true
theorem rises_ext {l m : List Told} (h1 : Rises l) (h2 : Rises m) (h : ∀ x, x ∈ l ↔ x ∈ m) : l = m :=
  rise_ext2 (r := fun x y => lessN (idT2 x) (idT2 y) = true) (fun x => by rw [less_irrefl]; simp) (fun x y z => less_trans) h1 h2 h
def idOf (s : List UInt8) : Nat × Nat := (valB (s.take 8), valB (s.drop 8))
theorem idOf_bytes {s : List UInt8} (h : s.length = 16) : idBytes (idOf s).1 (idOf s).2 = s := id_valB h
theorem idOf_lt {s : List UInt8} (h : s.length = 16) : (idOf s).1 < 18446744073709551616 ∧ (idOf s).2 < 18446744073709551616 :=
  ⟨valB_lt64 _ (by simp; omega), valB_lt64 _ (by simp; omega)⟩
theorem idOf_id {a b : Nat} (ha : a < 18446744073709551616) (hb : b < 18446744073709551616) : idOf (idBytes a b) = (a, b) := by
  have := idBytes_inj (idOf_lt (idBytes_length a b)).1 (idOf_lt (idBytes_length a b)).2 ha hb (idOf_bytes (idBytes_length a b))
  exact Prod.ext this.1 this.2
theorem less_ids {s t : List UInt8} (hs : s.length = 16) (ht : t.length = 16) : lessN (idOf s) (idOf t) = decide (s < t) := by
  have h1 := idOf_lt hs
  have h2 := idOf_lt ht
  have := idBytes_lt h1.1 h1.2 h2.1 h2.2
  rw [idOf_bytes hs, idOf_bytes ht] at this
  unfold lessN
  rw [decide_eq_decide]
  exact this.symm
theorem told_rise {T : Option RT} (h : WFO T) (s : List UInt8) : Rises (toldL T s) := by
  unfold Rises toldL fromL
  rw [List.pairwise_map]
  refine List.Pairwise.imp_of_mem ?_ (List.Pairwise.filter _ (itemsO_rise h))
  rintro ⟨a, va⟩ ⟨b, vb⟩ ha hb hab
  have h1 := ((mem_itemsO h a va).1 (List.mem_filter.1 ha).1).1
  have h2 := ((mem_itemsO h b vb).1 (List.mem_filter.1 hb).1).1
  have := less_ids h1 h2
  rw [decide_eq_true hab] at this
  exact this
theorem mem_told {T : Option RT} (h : WFO T) {c d : Nat} (hc : c < 18446744073709551616) (hd : d < 18446744073709551616) (x : Told) :
    x ∈ toldL T (idBytes c d) ↔ (x.1 < 18446744073709551616 ∧ x.2.1 < 18446744073709551616) ∧ lookO T (idBytes x.1 x.2.1) = some x.2.2 ∧ lessN (idT2 x) (c, d) = false := by
  obtain ⟨a, b, v⟩ := x
  unfold toldL fromL
  rw [List.mem_map]
  constructor
  · rintro ⟨⟨s, v'⟩, hm, he⟩
    obtain ⟨h1, h2⟩ := List.mem_filter.1 hm
    obtain ⟨hs, hl⟩ := (mem_itemsO h s v').1 h1
    simp only [itemOf, Prod.mk.injEq] at he
    obtain ⟨rfl, rfl, rfl⟩ := he
    have hi := idOf_bytes hs
    unfold idOf at hi
    dsimp only at hi ⊢
    rw [hi]
    refine ⟨idOf_lt hs, hl, ?_⟩
    have := less_ids hs (idBytes_length c d)
    rw [idOf_id hc hd] at this
    show lessN (idOf s) (c, d) = false
    rw [this]
    simpa using h2
  · rintro ⟨⟨h1, h2⟩, h3, h4⟩
    dsimp only at h1 h2 h3
    refine ⟨(idBytes a b, v), List.mem_filter.2 ⟨(mem_itemsO h _ _).2 ⟨idBytes_length a b, h3⟩, ?_⟩, ?_⟩
    · have := less_ids (idBytes_length a b) (idBytes_length c d)
      rw [idOf_id hc hd, idOf_id h1 h2] at this
      have h4' : lessN (a, b) (c, d) = false := h4
      rw [h4'] at this
      simpa using this.symm
    · have := idOf_id h1 h2
      unfold idOf at this
      simp only [Prod.mk.injEq] at this
      simp [itemOf, this.1, this.2]
theorem mem_all {T : Option RT} (h : WFO T) (x : Told) : x ∈ toldL T (idBytes 0 0) ↔ (x.1 < 18446744073709551616 ∧ x.2.1 < 18446744073709551616) ∧ lookO T (idBytes x.1 x.2.1) = some x.2.2 := by
  rw [mem_told h (by omega) (by omega)]
  have : lessN (idT2 x) (0, 0) = false := by simp [lessN]
  simp [this]
theorem told_from {T : Option RT} (h : WFO T) {c d : Nat} (hc : c < 18446744073709551616) (hd : d < 18446744073709551616) : toldL T (idBytes c d) = (toldL T (idBytes 0 0)).filter fun x => !lessN (idT2 x) (c, d) := by
  refine rises_ext (told_rise h _) (List.Pairwise.filter _ (told_rise h _)) fun x => ?_
  rw [List.mem_filter, mem_told h hc hd, mem_all h]
  simp [and_assoc]
theorem told_put {T : Option RT} (h : WFO T) {a b : Nat} (ha : a < 18446744073709551616) (hb : b < 18446744073709551616) (v : VT) (hlt : ∀ x ∈ toldL T (idBytes 0 0), lessN (idT2 x) (a, b) = true) :
    toldL (putO T (idBytes a b) v) (idBytes 0 0) = toldL T (idBytes 0 0) ++ [(a, b, v)] := by
  have hw := h.putO (idBytes_length a b) v
  refine rises_ext (told_rise hw _) ?_ fun x => ?_
  · unfold Rises
    rw [List.pairwise_append]
    refine ⟨told_rise h _, by simp, fun x hx y hy => ?_⟩
    rw [List.mem_singleton.1 hy]
    exact hlt x hx
  · rw [List.mem_append, mem_all hw, mem_all h, List.mem_singleton, look_putO h (idBytes_length a b) (idBytes_length _ _) v]
    obtain ⟨x1, x2, xv⟩ := x
    dsimp only
    constructor
    · rintro ⟨h1, h2⟩
      split at h2
      · next e =>
        obtain ⟨rfl, rfl⟩ := idBytes_inj h1.1 h1.2 ha hb e
        cases h2
        exact .inr rfl
      · exact .inl ⟨h1, h2⟩
    · rintro (⟨h1, h2⟩ | h2)
      · refine ⟨h1, ?_⟩
        rw [if_neg]
        · exact h2
        · intro e
          obtain ⟨rfl, rfl⟩ := idBytes_inj h1.1 h1.2 ha hb e
          have := hlt _ ((mem_all h (x1, x2, xv)).2 ⟨h1, h2⟩)
          rw [show idT2 (x1, x2, xv) = (x1, x2) from rfl, less_irrefl] at this
          cases this
      · simp only [Prod.mk.injEq] at h2
        obtain ⟨rfl, rfl, rfl⟩ := h2
        exact ⟨⟨ha, hb⟩, by rw [if_pos rfl]⟩
theorem told_del {T : Option RT} (h : WFO T) {a b : Nat} (ha : a < 18446744073709551616) (hb : b < 18446744073709551616) (hl : lookO T (idBytes a b) ≠ none) :
    toldL (delO T (idBytes a b)) (idBytes 0 0) = (toldL T (idBytes 0 0)).filter fun x => !decide (idT2 x = (a, b)) := by
  have hw := h.delO (idBytes_length a b) hl
  refine rises_ext (told_rise hw _) (List.Pairwise.filter _ (told_rise h _)) fun x => ?_
  rw [List.mem_filter, mem_all hw, mem_all h, look_delO h (idBytes_length a b) (idBytes_length _ _) hl]
  obtain ⟨x1, x2, xv⟩ := x
  simp only [idT2, Bool.not_eq_true', decide_eq_false_iff_not, Prod.mk.injEq]
  constructor
  · rintro ⟨h1, h2⟩
    split at h2
    · cases h2
    · next e => exact ⟨⟨h1, h2⟩, fun he => e (by rw [he.1, he.2])⟩
  · rintro ⟨⟨h1, h2⟩, h3⟩
    refine ⟨h1, ?_⟩
    rw [if_neg]
    · exact h2
    · intro e
      exact h3 (idBytes_inj h1.1 h1.2 ha hb e)
theorem look_some {T : Option RT} (h : WFO T) {a b : Nat} (ha : a < 18446744073709551616) (hb : b < 18446744073709551616) : (lookO T (idBytes a b)).isSome = (toldL T (idBytes 0 0)).any fun x => decide (idT2 x = (a, b)) := by
  cases hl : lookO T (idBytes a b) with
  | none =>
    symm
    rw [Option.isSome_none, List.any_eq_false]
    intro x hx
    simp only [decide_eq_true_eq]
    intro e
    obtain ⟨x1, x2, xv⟩ := x
    simp only [idT2, Prod.mk.injEq] at e
    obtain ⟨rfl, rfl⟩ := e
    have := ((mem_all h _).1 hx).2
    dsimp only at this
    rw [hl] at this
    cases this
  | some v =>
    symm
    rw [Option.isSome_some, List.any_eq_true]
    exact ⟨(a, b, v), (mem_all h _).2 ⟨⟨ha, hb⟩, hl⟩, by simp [idT2]⟩
end Go.Proofs.YtbjpfnafhhbmaaaDoor.Sad

/- (*stream.Stream).Delete, SetLast, Last; the law's top. -/
namespace Go.Proofs.YtbjpfnafhhbmaaaDoor.Sad
open Go.Proofs.YtbjpfnafhhbmaaaDoor
set_option linter.unusedVariables false
set_option linter.unusedSimpArgs false
open Go.RowKit RT Go.Shelf
set_option maxHeartbeats 3200000 in
set_option maxRecDepth 100000 in
theorem stmDelete {w : World} {s p : Nat} {G : Nat → Prop} {T : Option RT} {n ms q : Nat} (h : StmF w s p G T n ms q) {a b : Nat} (ha : a < 18446744073709551616) (hb : b < 18446744073709551616) (hn : n ≤ 1000000000) (hl : lookO T (idBytes a b) ≠ none → 0 < n) :
    Calls Tryd.prog 32 #[ptrV s, .agg #[.int .u64 a, .int .u64 b]] w fun e w' => e = .returned (.bool (lookO T (idBytes a b)).isSome) ∧ ∃ G', StmF w' s p G' (if (lookO T (idBytes a b)).isSome then delO T (idBytes a b) else T) (if (lookO T (idBytes a b)).isSome then n - 1 else n) ms q ∧ Fresh w G G' ∧ Chg G w w' := by
  obtain ⟨w1, hw1⟩ : ∃ w1, w1 = w.alloc (.cells #[.int .u64 a, .int .u64 b] 24) := ⟨_, rfl⟩
  have hb1 : Below w.heap.size w w1 := by rw [hw1]; exact (Below.refl _ _).alloc (Nat.le_refl _) _
  have hh1 : w1.heap[w.heap.size]? = some (.cells #[.int .u64 a, .int .u64 b] 24 (0, 0)) := by rw [hw1]; exact heap_new _ _
  have h1 := h.below hb1
  have h1d := h1.below (belowN (Below.refl w1.heap.size w1) 1)
  have HC := Lib.hid (show ∀ w', Below w1.heap.size w1 w' → (w'.cell? ⟨s, 0, none⟩ = some (ptrV p)) ∧ w'.cell? ⟨w.heap.size, 0, none⟩ = some (.int .u64 a) ∧ w'.cell? ⟨w.heap.size, 1, none⟩ = some (.int .u64 b) from fun w' hb => by
    have e1 := (hb.block _ (heap_lt h1.head)).trans h1.head
    have e2 := (hb.block _ (heap_lt hh1)).trans hh1
    exact ⟨cell_in e1 rfl, cell_in e2 rfl, cell_in e2 rfl⟩)
  have HT := Lib.hid (stmThere h1d)
  have HD := radDelete h1d.tree ha hb hn hl
  unfold Deleted at HD
  have HD2 := Lib.hid HD
  obtain ⟨x, hx⟩ : ∃ x, (lookO T (idBytes a b)).isSome = x := ⟨_, rfl⟩
  rw [hx] at HD2 ⊢
  obtain ⟨T', hT'⟩ : ∃ T', (if x then delO T (idBytes a b) else T) = T' := ⟨_, rfl⟩
  obtain ⟨n', hn'⟩ : ∃ n', (if x then n - 1 else n) = n' := ⟨_, rfl⟩
  rw [hT', hn'] at HD2 ⊢
  have HEnd := Lib.hid (show ∀ w' G', TreeF w' p G' T' n' → Fresh w1 G G' → Chg G (w1.drewN 1) w' → StmF w' s p G' T' n' ms q ∧ Fresh w G G' ∧ Chg G w w' from fun w' G' ht hf hc0 => by
    have hc := (Chg.drewN G w1 1).trans hc0 fun _ h _ => h
    have hs1 := heap_lt h.head
    refine ⟨⟨hc.keep h1.head h.own, ht, fun hg => ?_, h.ms_lt, h.q_lt⟩, fun k hk => (hf k hk).imp id fun h => Nat.le_trans hb1.size h, (Chg.of_below G hb1).trans hc fun k hk _ => hk⟩
    rcases hf s hg with h' | h'
    · exact h.own h'
    · have := heap_lt h1.head; omega)
  have HW := Lib.hid hw1
  have c0 := HC.out w1.drew (belowN (Below.refl _ _) 1)
  obtain ⟨X1, f, hX1, hf, hF⟩ := classOf (fun w' => (w'.cell? ⟨s, 0, none⟩ = some (ptrV p)) ∧ w'.cell? ⟨w.heap.size, 0, none⟩ = some (.int .u64 a) ∧ w'.cell? ⟨w.heap.size, 1, none⟩ = some (.int .u64 b)) (w := w1.drew) c0
  have f1 := fun x => (hf x).1
  have f2 := fun x => (hf x).2.1
  have f3 := fun x => (hf x).2.2
  have HFa := Lib.hid (hF w1.drew c0)
  clear hF hf h h1 h1d hw1 hb1 hh1 HD hx hT' hn' c0 hl hn
  unfold ptrV at *
  go_enter Tryd.func32, Tryd.ntmps32
  go_wp2_with fail
  rw [← HW.out]
  refine wp_region_text ⟨[1, 8], [9, 10], 8⟩ (fun w' => ∃ x : X1, w' = f x) (by kernel_rfl) (by kernel_rfl) HFa.out ?_
  refine wpC_seg false (HFa.out) 1 0 _ _ (by rfl) (by rfl) ?_
  simp only [List.take_succ_cons, List.take_zero, List.drop_succ_cons, List.drop_zero, Bool.false_eq_true, if_false, Nat.zero_add, Nat.reduceAdd]
  repeat (go_big_quiet_step (fail))
  refine wpQuiet_nil ?_
  refine wpC_loud (by rfl) (by rfl) fun K hK => ?_
  go_wp2_with fail
  refine HT.out.mono ?_
  rintro e w2 ⟨rfl, hww⟩
  rw [hww]
  refine hK _ _ (fun _ => HFa.out) ?_
  clear hK
  refine wpC_seg false (HFa.out) 6 2 _ _ (by rfl) (by rfl) ?_
  simp only [List.take_succ_cons, List.take_zero, List.drop_succ_cons, List.drop_zero, Bool.false_eq_true, if_false, Nat.zero_add, Nat.reduceAdd]
  repeat (go_big_quiet_step (fail))
  refine wpQuiet_nil ?_
  refine wpC_loud (by rfl) (by rfl) fun K hK => ?_
  go_wp2_with fail
  refine HD2.out.mono ?_
  rintro e w3 ⟨rfl, G', t3, fr3, c3⟩
  have HE := Lib.hid (HEnd.out w3 G' t3 fr3 c3)
  refine hK _ _ (fun h => absurd h (by decide)) ?_
  clear hK t3 fr3 c3
  refine wpC_segD 2 9 _ _ (by rfl) (by rfl) ?_
  simp only [List.take_succ_cons, List.take_zero, List.drop_succ_cons, List.drop_zero, if_true, Nat.zero_add, Nat.reduceAdd]
  repeat (go_big_quiet_step (fail))
  refine wpQuiet_nil ?_
  refine wpC_nil ?_
  clear f1 f2 f3 hX1 HFa f hww HT HD2
  go_wp2_with fail
  go_ret
  exact ⟨rfl, _, HE.out⟩
set_option maxHeartbeats 3200000 in
set_option maxRecDepth 100000 in
theorem stmSetLast {w : World} {s p : Nat} {G : Nat → Prop} {T : Option RT} {n ms q : Nat} (h : StmF w s p G T n ms q) {a b : Nat} (ha : a < 18446744073709551616) (hb : b < 18446744073709551616) :
    Calls Tryd.prog 33 #[ptrV s, .agg #[.int .u64 a, .int .u64 b]] w fun e w' =>
      (lessN (a, b) (ms, q) = true ∧ e = .returned (.int .i64 1) ∧ Below w.heap.size w w') ∨ (lessN (a, b) (ms, q) = false ∧ e = .returned (.int .i64 0) ∧ StmF w' s p G T n a b ∧ Chg (fun k => k = s) w w') := by
  obtain ⟨w1, hw1⟩ : ∃ w1, w1 = w.alloc (.cells #[.int .u64 a, .int .u64 b] 24) := ⟨_, rfl⟩
  have hb1 : Below w.heap.size w w1 := by rw [hw1]; exact (Below.refl _ _).alloc (Nat.le_refl _) _
  have hh1 : w1.heap[w.heap.size]? = some (.cells #[.int .u64 a, .int .u64 b] 24 (0, 0)) := by rw [hw1]; exact heap_new _ _
  have h1 := h.below hb1
  have HC := Lib.hid (show ∀ w', Below w1.heap.size w1 w' → (w'.cell? ⟨s, 1, none⟩ = some (.int .u64 ms) ∧ w'.cell? ⟨s, 2, none⟩ = some (.int .u64 q)) ∧ w'.cell? ⟨w.heap.size, 0, none⟩ = some (.int .u64 a) ∧ w'.cell? ⟨w.heap.size, 1, none⟩ = some (.int .u64 b) from fun w' hb => by
    have e1 := (hb.block _ (heap_lt h1.head)).trans h1.head
    have e2 := (hb.block _ (heap_lt hh1)).trans hh1
    exact ⟨⟨cell_in e1 rfl, cell_in e1 rfl⟩, cell_in e2 rfl, cell_in e2 rfl⟩)
  have HT := Lib.hid (stmThere h1)
  have HBl := Lib.hid (fun w' => stmBelow a b ms q w')
  have HW := Lib.hid hw1
  have HEnd := Lib.hid (show ∀ w', Below w1.heap.size w1 w' → Below w.heap.size w w' ∧ (w'.frozen? ⟨s, 1, none⟩ = false ∧ (w'.setCell ⟨s, 1, none⟩ (.int .u64 a)).cell? ⟨s, 2, none⟩ = some (.int .u64 q) ∧ (w'.setCell ⟨s, 1, none⟩ (.int .u64 a)).frozen? ⟨s, 2, none⟩ = false) ∧ StmF ((w'.setCell ⟨s, 1, none⟩ (.int .u64 a)).setCell ⟨s, 2, none⟩ (.int .u64 b)) s p G T n a b ∧ Chg (fun k => k = s) w ((w'.setCell ⟨s, 1, none⟩ (.int .u64 a)).setCell ⟨s, 2, none⟩ (.int .u64 b)) from fun w' hb' => by
    have bb := hb1.trans (hb'.mono hb1.size)
    have e1 := (hb'.block _ (heap_lt h1.head)).trans h1.head
    have e2 := setCell_head e1 1 (.int .u64 a)
    have e3 := setCell_head e2 2 (.int .u64 b)
    have cS : Chg (fun k => k = s) w' ((w'.setCell ⟨s, 1, none⟩ (.int .u64 a)).setCell ⟨s, 2, none⟩ (.int .u64 b)) := (Chg.setCell (fun j => j = s) w' _ _ rfl).trans (Chg.setCell (fun j => j = s) _ _ _ rfl) fun _ h _ => h
    exact ⟨bb, ⟨frozen_in e1 1, cell_in e2 rfl, frozen_in e2 2⟩, ⟨e3, (h1.tree.below hb').chg cS (fun k hk e => h.own (e ▸ hk)), h.own, ha, hb⟩, (Chg.of_below _ bb).trans cS fun _ h _ => h⟩)
  obtain ⟨x, hx⟩ : ∃ x, lessN (a, b) (ms, q) = x := ⟨_, rfl⟩
  rw [hx] at HBl ⊢
  have c0 := HC.out w1.drew (belowN (Below.refl _ _) 1)
  obtain ⟨X1, f, hX1, hf, hF⟩ := classOf (fun w' => (w'.cell? ⟨s, 1, none⟩ = some (.int .u64 ms) ∧ w'.cell? ⟨s, 2, none⟩ = some (.int .u64 q)) ∧ w'.cell? ⟨w.heap.size, 0, none⟩ = some (.int .u64 a) ∧ w'.cell? ⟨w.heap.size, 1, none⟩ = some (.int .u64 b)) (w := w1.drew) c0
  have f1 := fun x => (hf x).1.1
  have f2 := fun x => (hf x).1.2
  have f3 := fun x => (hf x).2.1
  have f4 := fun x => (hf x).2.2
  have HFa := Lib.hid (hF w1.drew c0)
  clear hF hf h h1 hw1 hb1 hh1 hx c0 ha hb
  unfold ptrV at HT
  unfold ptrV
  go_enter Tryd.func33, Tryd.ntmps33
  go_wp2_with fail
  rw [← HW.out]
  refine HT.out.mono ?_
  rintro e w' ⟨rfl, hww⟩
  rw [hww]
  clear hww w'
  go_upto_region 3 with (fail)
  refine wp_region_text ⟨[5], [6], 5⟩ (fun w' => ∃ x : X1, w' = f x) (by kernel_rfl) (by kernel_rfl) HFa.out ?_
  refine wpC_seg false (HFa.out) 5 0 _ _ (by rfl) (by rfl) ?_
  simp only [List.take_succ_cons, List.take_zero, List.drop_succ_cons, List.drop_zero, Bool.false_eq_true, if_false, Nat.zero_add, Nat.reduceAdd]
  repeat (go_big_quiet_step (fail))
  refine wpQuiet_nil ?_
  refine wpC_loud (by rfl) (by rfl) fun K hK => ?_
  go_wp2_with fail
  refine (HBl.out _).mono ?_
  rintro e w2 ⟨rfl, b2⟩
  have HB2 := Lib.hid ((belowN (Below.refl w1.heap.size w1) 1).trans b2)
  refine hK _ _ (fun h => absurd h (by decide)) ?_
  clear hK b2
  refine wpC_segD 1 6 _ _ (by rfl) (by rfl) ?_
  simp only [List.take_succ_cons, List.take_zero, List.drop_succ_cons, List.drop_zero, if_true, Nat.zero_add, Nat.reduceAdd]
  repeat (go_big_quiet_step (fail))
  refine wpQuiet_nil ?_
  refine wpC_nil ?_
  clear f1 f2 f3 f4 hX1 HFa f
  cases x
  case' true =>
    go_wp2_with fail
    go_ret
    exact ⟨rfl, (HEnd.out _ HB2.out).1⟩
  case' false =>
    obtain ⟨⟨d1, d2⟩, d3, d4⟩ := HC.out w2 HB2.out
    obtain ⟨g1, g2, g3⟩ := (HEnd.out _ HB2.out).2.1
    have HE := Lib.hid ((HEnd.out _ HB2.out).2.2)
    clear HEnd HC
    go_wp2_with fail
    go_ret
    exact ⟨rfl, HE.out⟩
set_option maxHeartbeats 3200000 in
set_option maxRecDepth 100000 in
theorem stmLast {w : World} {s p : Nat} {G : Nat → Prop} {T : Option RT} {n ms q : Nat} (h : StmF w s p G T n ms q) :
    Calls Tryd.prog 24 #[ptrV s] w fun e w' => e = .returned (.agg #[.int .u64 ms, .int .u64 q]) ∧ Below w.heap.size w w' := by
  obtain ⟨w1, hw1⟩ : ∃ w1, w1 = w.alloc (.cells #[.int .u64 0, .int .u64 0] 24) := ⟨_, rfl⟩
  have hb1 : Below w.heap.size w w1 := by rw [hw1]; exact (Below.refl _ _).alloc (Nat.le_refl _) _
  have hh1 : w1.heap[w.heap.size]? = some (.cells #[.int .u64 0, .int .u64 0] 24 (0, 0)) := by rw [hw1]; exact heap_new _ _
  have h1 := h.below hb1
  have HT := Lib.hid (stmThere h1)
  have d1 := cell_in h1.head (i := 1) rfl
  have d2 := cell_in h1.head (i := 2) rfl
  have g1 := frozen_in hh1 0
  have HEnd := Lib.hid (show (((w1.setCell ⟨w.heap.size, 0, none⟩ (.int .u64 ms)).setCell ⟨w.heap.size, 1, none⟩ (.int .u64 q)).cell? ⟨w.heap.size, 0, none⟩ = some (.int .u64 ms) ∧ ((w1.setCell ⟨w.heap.size, 0, none⟩ (.int .u64 ms)).setCell ⟨w.heap.size, 1, none⟩ (.int .u64 q)).cell? ⟨w.heap.size, 1, none⟩ = some (.int .u64 q)) ∧ Below w.heap.size w ((w1.setCell ⟨w.heap.size, 0, none⟩ (.int .u64 ms)).setCell ⟨w.heap.size, 1, none⟩ (.int .u64 q)) ∧ (w1.setCell ⟨w.heap.size, 0, none⟩ (.int .u64 ms)).cell? ⟨w.heap.size, 1, none⟩ = some (.int .u64 0) ∧ (w1.setCell ⟨w.heap.size, 0, none⟩ (.int .u64 ms)).frozen? ⟨w.heap.size, 1, none⟩ = false by
    have e2 := setCell_head hh1 0 (.int .u64 ms)
    have e3 := setCell_head e2 1 (.int .u64 q)
    exact ⟨⟨cell_in e3 rfl, cell_in e3 rfl⟩, (hb1.setCell (Nat.le_refl _) _).setCell (Nat.le_refl _) _, cell_in e2 rfl, frozen_in e2 1⟩)
  have k0 := cell_in hh1 (i := 0) rfl
  have k1 := HEnd.out.2.2.1
  have k2 := HEnd.out.2.2.2
  have HW := Lib.hid hw1
  clear h h1 hw1 hb1 hh1
  unfold ptrV at *
  go_enter Tryd.func24, Tryd.ntmps24
  go_wp2_with fail
  rw [← HW.out]
  refine HT.out.mono ?_
  rintro e w' ⟨rfl, hww⟩
  rw [hww]
  clear hww w'
  go_wp2_with fail
  exact bodyPost_ret (v := .agg #[.int .u64 ms, .int .u64 q]) (by have h := HEnd.out.1; simp [results, Tryd.results24, go_sem, h.1, h.2]) rfl ⟨rfl, HEnd.out.2.1⟩
set_option maxHeartbeats 3200000 in
set_option maxRecDepth 100000 in
theorem top_any (w : World) : Calls Tryd.prog 16 #[] w fun e w' => e = .returned (.agg #[.int .u64 18446744073709551615, .int .u64 18446744073709551615]) ∧ Below w.heap.size w w' := by
  obtain ⟨w1, hw1⟩ : ∃ w1, w1 = w.alloc (.cells #[.int .u64 18446744073709551615, .int .u64 18446744073709551615] 24) := ⟨_, rfl⟩
  have hb1 : Below w.heap.size w w1 := by rw [hw1]; exact (Below.refl _ _).alloc (Nat.le_refl _) _
  have hh1 : w1.heap[w.heap.size]? = some (.cells #[.int .u64 18446744073709551615, .int .u64 18446744073709551615] 24 (0, 0)) := by rw [hw1]; exact heap_new _ _
  have HE := Lib.hid (show (w1.cell? ⟨w.heap.size, 0, none⟩ = some (.int .u64 18446744073709551615) ∧ w1.cell? ⟨w.heap.size, 1, none⟩ = some (.int .u64 18446744073709551615)) ∧ Below w.heap.size w w1 from ⟨⟨cell_in hh1 rfl, cell_in hh1 rfl⟩, hb1⟩)
  have HW := Lib.hid hw1
  clear hw1 hb1 hh1
  go_enter Tryd.func16, Tryd.ntmps16
  go_wp2_with fail
  rw [← HW.out]
  exact bodyPost_ret (v := .agg #[.int .u64 18446744073709551615, .int .u64 18446744073709551615]) (by have h := HE.out.1; simp [results, Tryd.results16, go_sem, h.1, h.2]) rfl ⟨rfl, HE.out.2⟩
end Go.Proofs.YtbjpfnafhhbmaaaDoor.Sad

/- entries in memory: what a tree tells and which pairs its rows hold; slices of entries. -/
namespace Go.Proofs.YtbjpfnafhhbmaaaDoor.Sad
open Go.Proofs.YtbjpfnafhhbmaaaDoor
set_option linter.unusedVariables false
set_option linter.unusedSimpArgs false
open Go.RowKit RT Go.Shelf
abbrev Ent := (Nat × Nat) × List PairT
theorem pairRow_one {w : World} {a : Option Addr} {n c : Nat} {L M : List PairT} (h : PairRow w a n c L) (k : PairRow w a n c M) : L = M := by
  apply List.ext_getElem (by rw [h.1, k.1])
  intro i h1 h2
  obtain ⟨b, o, e, _, d0, d1⟩ := h.cells (i := i) (by rw [← h.1]; exact h1)
  obtain ⟨b', o', e', _, d0', d1'⟩ := k.cells (i := i) (by rw [← h.1]; exact h1)
  rw [e] at e'
  cases e'
  rw [d0] at d0'
  rw [d1] at d1'
  simp only [Option.some.injEq, Value.string.injEq] at d0' d1'
  have g1 : L.getD i e0 = L[i] := by simp [List.getD, h1]
  have g2 : M.getD i e0 = M[i] := by simp [List.getD, h2]
  rw [g1, g2] at d0' d1'
  exact Prod.ext d0' d1'
/-- One thing told and its entry: the same identifier; the row holds the entry's pairs, in a block of Q. -/
def RowIs (w : World) (Q : Nat → Prop) (x : Told) (e : Ent) : Prop :=
  idT2 x = e.1 ∧ PairRow w x.2.2.1 x.2.2.2.1 x.2.2.2.2 e.2 ∧ (0 < x.2.2.2.1 ∧ x.2.2.2.1 ≤ 4000000000000) ∧ ∃ b, x.2.2.1 = some ⟨b, 0, none⟩ ∧ Q b
def Rows2 (w : World) (Q : Nat → Prop) : List Told → List Ent → Prop
  | [], [] => True
  | x :: xs, e :: es => RowIs w Q x e ∧ Rows2 w Q xs es
  | _, _ => False
section
variable {w w' : World} {Q Q' : Nat → Prop}
theorem RowIs.chg {x : Told} {e : Ent} (h : RowIs w Q x e) {S : Nat → Prop} (hc : Chg S w w') (hs : ∀ b, Q b → ¬ S b) : RowIs w' Q x e := by
  obtain ⟨h1, h2, h3, b, h4, h5⟩ := h
  exact ⟨h1, h2.chg hc (fun b' o' e => by rw [h4] at e; cases e; exact hs b h5), h3, b, h4, h5⟩
theorem RowIs.imp {x : Told} {e : Ent} (h : RowIs w Q x e) (hq : ∀ b, b < w.heap.size → Q b → Q' b) : RowIs w Q' x e := by
  obtain ⟨h1, h2, h3, b, h4, h5⟩ := h
  refine ⟨h1, h2, h3, b, h4, hq b ?_ h5⟩
  obtain ⟨b', o', e', hlt, _⟩ := h2.cells (i := 0) h3.1
  rw [h4] at e'; cases e'; exact hlt
theorem Rows2.chg {S : Nat → Prop} (hc : Chg S w w') (hs : ∀ b, Q b → ¬ S b) : ∀ {xs : List Told} {es : List Ent}, Rows2 w Q xs es → Rows2 w' Q xs es
  | [], [], _ => trivial
  | x :: xs, e :: es, h => ⟨h.1.chg hc hs, h.2.chg hc hs⟩
  | [], _ :: _, h => h.elim
  | _ :: _, [], h => h.elim
theorem Rows2.imp (hq : ∀ b, b < w.heap.size → Q b → Q' b) : ∀ {xs : List Told} {es : List Ent}, Rows2 w Q xs es → Rows2 w Q' xs es
  | [], [], _ => trivial
  | x :: xs, e :: es, h => ⟨h.1.imp hq, h.2.imp hq⟩
  | [], _ :: _, h => h.elim
  | _ :: _, [], h => h.elim
theorem Rows2.length : ∀ {xs : List Told} {es : List Ent}, Rows2 w Q xs es → xs.length = es.length
  | [], [], _ => rfl
  | x :: xs, e :: es, h => by rw [List.length_cons, List.length_cons, h.2.length]
  | [], _ :: _, h => h.elim
  | _ :: _, [], h => h.elim
theorem Rows2.append : ∀ {xs ys : List Told} {es fs : List Ent}, Rows2 w Q xs es → Rows2 w Q ys fs → Rows2 w Q (xs ++ ys) (es ++ fs)
  | [], _, [], _, _, k => k
  | x :: xs, _, e :: es, _, h, k => ⟨h.1, h.2.append k⟩
  | [], _, _ :: _, _, h, _ => h.elim
  | _ :: _, _, [], _, h, _ => h.elim
theorem Rows2.get : ∀ {xs : List Told} {es : List Ent} (h : Rows2 w Q xs es) (i : Nat) (h1 : i < xs.length) (h2 : i < es.length), RowIs w Q xs[i] es[i]
  | x :: xs, e :: es, h, 0, _, _ => h.1
  | x :: xs, e :: es, h, i + 1, h1, h2 => h.2.get i (by simpa using h1) (by simpa using h2)
  | [], _ :: _, h, _, _, _ => h.elim
  | _ :: _, [], h, _, _, _ => h.elim
theorem Rows2.mem : ∀ {xs : List Told} {es : List Ent}, Rows2 w Q xs es → ∀ x ∈ xs, ∃ e ∈ es, RowIs w Q x e
  | x :: xs, e :: es, h, y, hy => by
    rcases List.mem_cons.1 hy with rfl | hy
    · exact ⟨e, by simp, h.1⟩
    · obtain ⟨e', h1, h2⟩ := h.2.mem y hy
      exact ⟨e', by simp [h1], h2⟩
  | [], _ :: _, h, _, _ => h.elim
  | _ :: _, [], h, _, _ => h.elim
/-- The pairs that a row holds. -/
noncomputable def rowOf (w : World) (x : Told) : List PairT := Classical.epsilon fun L => PairRow w x.2.2.1 x.2.2.2.1 x.2.2.2.2 L
theorem rowOf_eq {x : Told} {L : List PairT} (h : PairRow w x.2.2.1 x.2.2.2.1 x.2.2.2.2 L) : rowOf w x = L := by
  have := Classical.epsilon_spec (p := fun L => PairRow w x.2.2.1 x.2.2.2.1 x.2.2.2.2 L) ⟨L, h⟩
  exact pairRow_one this h
noncomputable def entOf (w : World) (x : Told) : Ent := (idT2 x, rowOf w x)
theorem RowIs.ent {x : Told} {e : Ent} (h : RowIs w Q x e) : entOf w x = e := by
  unfold entOf
  rw [rowOf_eq h.2.1, h.1]
theorem Rows2.ents : ∀ {xs : List Told} {es : List Ent}, Rows2 w Q xs es → es = xs.map (entOf w)
  | [], [], _ => rfl
  | x :: xs, e :: es, h => by rw [List.map_cons, ← h.2.ents, h.1.ent]
  | [], _ :: _, h => h.elim
  | _ :: _, [], h => h.elim
theorem Rows2.filter {p : Ent → Bool} : ∀ {xs : List Told} {es : List Ent}, Rows2 w Q xs es → Rows2 w Q (xs.filter fun x => p (entOf w x)) (es.filter p)
  | [], [], _ => trivial
  | x :: xs, e :: es, h => by
    rw [List.filter_cons, List.filter_cons, h.1.ent]
    split
    · exact ⟨h.1, h.2.filter⟩
    · exact h.2.filter
  | [], _ :: _, h => h.elim
  | _ :: _, [], h => h.elim
end
/-- An entry's cells. -/
def entV (x : Told) : List Value := [.int .u64 x.1, .int .u64 x.2.1, vC x.2.2]
/-- A slice of entries that a call made itself, from block n₀ on: its row, and a row of pairs for each, all of them different. -/
def EntsOut (w : World) (n₀ : Nat) (v : Value) (E : List Ent) : Prop :=
  ∃ Vs : List Told, SliceN w n₀ 39 3 v Vs.length (Vs.flatMap entV) ∧ Rows2 w (fun b => n₀ ≤ b ∧ vblock v ≠ some b) Vs E ∧ (Vs.map fun x => x.2.2.1).Nodup
theorem EntsOut.nil (w : World) (n₀ : Nat) : EntsOut w n₀ (.slice none 0 0) [] := ⟨[], SliceN.nil _ _ _ _, trivial, by simp⟩
theorem EntsOut.below {w w' : World} {n₀ : Nat} {v : Value} {E : List Ent} (h : EntsOut w n₀ v E) (hb : Below w.heap.size w w') : EntsOut w' n₀ v E := by
  obtain ⟨Vs, h1, h2, h3⟩ := h
  exact ⟨Vs, h1.below hb, Rows2.chg (Chg.of_below (fun _ => False) hb) (fun _ _ => id) h2, h3⟩
theorem info_entry : (Tryd.prog.info? 39).map (fun i => (i.zero, i.size, i.bytes)) = some (some (.agg #[.int .u64 0, .int .u64 0, .slice none 0 0]), 3, 40) := by kernel_rfl
set_option maxHeartbeats 400000 in
/-- One entry more. -/
theorem EntsOut.append {W w : World} {n₀ : Nat} {v : Value} {E : List Ent} (h0 : EntsOut W n₀ v E) (hb : Below W.heap.size W w) {x : Told} {e : Ent} (hn : n₀ ≤ W.heap.size) (hx : RowIs w (fun b => W.heap.size ≤ b) x e) (hsz : E.length + 1 ≤ 1000000000) :
    ∃ v' w', (Builtin.append_ #[34, 34] 34 #[v, .slice (some ⟨w.heap.size, 0, none⟩) 1 1]).run Tryd.prog (w.alloc (.cells (entV x).toArray 39)) = .ok v' w' ∧ EntsOut w' n₀ v' (E ++ [e]) ∧ Chg (fun k => vblock v = some k) w w' ∧ (vblock v' = vblock v ∨ ∃ k, vblock v' = some k ∧ w.heap.size ≤ k) := by
  have hB : ∀ k, vblock v = some k → k < W.heap.size := fun k hk => by
    obtain ⟨Vs, h1, _⟩ := h0
    exact (h1.block_lt hk).2
  have hov0 : ∀ Vs, Rows2 W (fun b => n₀ ≤ b ∧ vblock v ≠ some b) Vs E → Rows2 w (fun b => b < W.heap.size) Vs E := fun Vs h2 => Rows2.chg (Chg.of_below (fun _ => False) hb) (fun _ _ => id) (Rows2.imp (fun b hlt _ => hlt) h2)
  have h := h0.below hb
  obtain ⟨B, hBe⟩ : ∃ B, W.heap.size = B := ⟨_, rfl⟩
  rw [hBe] at hB hov0 hn hx
  obtain ⟨Vs, h1', h2', h3'⟩ := h0
  have h1 := h1'.below hb
  have h2 := Rows2.chg (Chg.of_below (fun _ => False) hb) (fun _ _ => id) h2'
  have h3 := h3'
  have hlen := h2.length
  have hov := hov0 Vs h2'
  obtain ⟨i0, g1, g2, g3, g4⟩ := info_parts info_entry
  have hBw : B ≤ w.heap.size := by
    obtain ⟨_, hp, h0, b, hb, hB'⟩ := hx
    obtain ⟨b', o', e', hlt, _⟩ := hp.cells (i := 0) h0.1
    rw [hb] at e'; cases e'; omega
  obtain ⟨v', w', hr, s2, c2, hv2⟩ := run_append_oneN (P := Tryd.prog) (t := 34) (ty := 34) (z := 3) (w := w) Tryd.underlying34 g1 g2 g3 g4 rfl h1 (by omega) (entV x) rfl (by simp [entV, Value.oneCell']) (by unfold maxLen; omega) (by omega)
  refine ⟨v', w', hr, ⟨Vs ++ [x], ?_, ?_, ?_⟩, c2, hv2⟩
  · rw [List.length_append, List.flatMap_append]
    simpa using s2
  · have hne : ∀ b, b < w.heap.size → vblock v ≠ some b → vblock v' ≠ some b := fun b hb hv e => by
      rcases hv2 with h | ⟨k, h, hk⟩
      · exact hv (h ▸ e)
      · rw [h] at e; cases e; omega
    refine Rows2.append ?_ ⟨?_, trivial⟩
    · have h2' : Rows2 w (fun b => (n₀ ≤ b ∧ b < w.heap.size) ∧ vblock v ≠ some b) Vs E := Rows2.imp (fun b hlt hb => ⟨⟨hb.1, hlt⟩, hb.2⟩) h2
      exact Rows2.imp (fun b _ hb => ⟨hb.1.1, hne b hb.1.2 hb.2⟩) (Rows2.chg c2 (fun b hb he => hb.2 he) h2')
    · have hx2 : RowIs w (fun b => (n₀ ≤ b ∧ b < w.heap.size) ∧ vblock v ≠ some b) x e := hx.imp fun b hlt hb => ⟨⟨by omega, hlt⟩, fun hv => by have := hB b hv; omega⟩
      exact (hx2.chg c2 fun b hb he => hb.2 he).imp fun b _ hb => ⟨hb.1.1, hne b hb.1.2 hb.2⟩
  · rw [List.map_append, List.nodup_append]
    refine ⟨h3, by simp, fun a ha b hb hab => ?_⟩
    subst hab
    simp only [List.map_cons, List.map_nil, List.mem_singleton] at hb
    obtain ⟨y, hy, hya⟩ := List.mem_map.1 ha
    obtain ⟨ey, _, _, _, _, by', hy2, hlt⟩ := hov.mem y hy
    obtain ⟨_, _, _, bx, hx2, hge⟩ := hx
    rw [hb, hx2] at hya
    rw [hy2] at hya
    cases hya
    omega
end Go.Proofs.YtbjpfnafhhbmaaaDoor.Sad
