/-
  Plain words for the layer dec, part 2: noughts, texts of digits put together and their values, the text of a decimal. No program in sight.
-/
import Derived.Test.YtgccppilhbannaaDoorDecN
import Derived.Lib.RepeatB
namespace Go.Proofs.YtgccppilhbannaaDoor
open Go.RowKit Go.PlainAid

/-- So many noughts. -/
def zeros (k : Nat) : ByteArray := ⟨(List.replicate k (48 : UInt8)).toArray⟩
theorem zeros_list (k : Nat) : (zeros k).data.toList = List.replicate k 48 := by simp [zeros]
theorem zeros_size (k : Nat) : (zeros k).size = k := by simp [zeros, ByteArray.size]
theorem zeros_dig (k : Nat) : AllDig (zeros k) := allDig_mem.2 fun b hb => by
  rw [zeros_list] at hb
  rw [(List.mem_replicate.1 hb).2]
  decide
theorem repeat_zeros (k : Nat) : (⟨(Lib.repeatL [48] k).toArray⟩ : ByteArray) = zeros k := by
  have : Lib.repeatL [48] k = List.replicate k 48 := by
    induction k with
    | zero => rfl
    | succ k ih => simp [Lib.repeatL, List.replicate_succ, ih]
  rw [this]
  rfl
theorem app_list (a b : ByteArray) : (a ++ b).data.toList = a.data.toList ++ b.data.toList := by simp [ByteArray.data_append]
theorem dl_app (a b : ByteArray) : dl (a ++ b) = dl a ++ dl b := by unfold dl; rw [app_list, List.map_append]
theorem dl_zeros (k : Nat) : dl (zeros k) = List.replicate k 0 := by unfold dl; rw [zeros_list]; simp
theorem dval_app (a b : ByteArray) : dval (a ++ b) = dval a * 10 ^ b.size + dval b := by
  unfold dval
  rw [dl_app, List.reverse_append, rowval_append, List.length_reverse, dl_length, Nat.mul_comm, Nat.add_comm]
theorem dval_zeros (k : Nat) : dval (zeros k) = 0 := by unfold dval; rw [dl_zeros, List.reverse_replicate, rowval_zeros]
theorem dval_pad (k : Nat) (a : ByteArray) : dval (zeros k ++ a) = dval a := by rw [dval_app, dval_zeros]; omega
theorem dval_behind (a : ByteArray) (k : Nat) : dval (a ++ zeros k) = dval a * 10 ^ k := by rw [dval_app, dval_zeros, zeros_size]; omega
theorem dval_lt {a : ByteArray} (h : AllDig a) : dval a < 10 ^ a.size := by
  have := rowval_lt (l := (dl a).reverse) (fun d hd => dl_lt h d (by simpa using hd))
  rw [List.length_reverse, dl_length] at this
  exact this
theorem pad_dig {a : ByteArray} (h : AllDig a) (k : Nat) : AllDig (zeros k ++ a) := allDig_app (zeros_dig k) h
theorem behind_dig {a : ByteArray} (h : AllDig a) (k : Nat) : AllDig (a ++ zeros k) := allDig_app h (zeros_dig k)
theorem ext_list {a b : ByteArray} (h : a.data.toList = b.data.toList) : a = b := by
  apply ByteArray.ext
  exact Array.toList_inj.1 h
theorem sub_list (s : ByteArray) (i j : Nat) : (s.extract i j).data.toList = (s.data.toList.take j).drop i := by
  simp [ByteArray.data_extract, Array.toList_extract, List.extract, List.drop_take]
theorem size_list (s : ByteArray) : s.data.toList.length = s.size := (Lib.size_eq s).symm

/-- The digits of a text with a point among them, as a decimal is told. -/
def padL (l : List UInt8) (sc : Nat) : List UInt8 := List.replicate (sc + 1 - l.length) 48 ++ l
theorem padL_length (l : List UInt8) (sc : Nat) : (padL l sc).length = max (sc + 1) l.length := by simp [padL]; omega
def pointL (l : List UInt8) (sc : Nat) : List UInt8 :=
  if 0 < sc then (padL l sc).take ((padL l sc).length - sc) ++ 46 :: (padL l sc).drop ((padL l sc).length - sc) else l
def printL (neg : Bool) (ds : ByteArray) (sc : Int) : List UInt8 := (if neg = true then [45] else []) ++ pointL ds.data.toList sc.toNat
/-- A decimal's text. -/
def printT (neg : Bool) (ds : ByteArray) (sc : Int) : ByteArray := ⟨(printL neg ds sc).toArray⟩
theorem printT_list (neg : Bool) (ds : ByteArray) (sc : Int) : (printT neg ds sc).data.toList = printL neg ds sc := by simp [printT]
/-- What Print answers. -/
def printR (neg : Bool) (ds : ByteArray) (sc : Int) : ByteArray × Int := if rightB neg ds sc = true then (printT neg ds sc, 0) else (⟨#[]⟩, 2)
abbrev printV (r : ByteArray × Int) : Value := .tuple #[.string r.1, .int .i64 r.2]
end Go.Proofs.YtgccppilhbannaaDoor
