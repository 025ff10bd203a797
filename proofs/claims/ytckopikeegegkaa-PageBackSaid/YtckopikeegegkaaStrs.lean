/- STRS: strings as lists of bytes, in the walk. -/
import Derived.Test.YtckopikeegegkaaMem
namespace Go.Proofs.Ytckopikeegegkaa
open Go.RowKit
@[simp, go_sem] theorem bs_toList (l : Str) : (bs l).toList = l := by rw [ByteArray.toList_eq]; simp [bs]
theorem bs_ext {s : ByteArray} {l : Str} (h : s.data.toList = l) : s = bs l := by rw [← h, bs_of]
theorem bs_append (a b : Str) : bs a ++ bs b = bs (a ++ b) := by
  apply bs_ext
  simp [bs]
theorem bs_extract (l : Str) (i j : Nat) : (bs l).extract i j = bs (sub l i j) := by
  apply bs_ext
  simp [bs, sub, ByteArray.extract, ByteArray.copySlice]
end Go.Proofs.Ytckopikeegegkaa
