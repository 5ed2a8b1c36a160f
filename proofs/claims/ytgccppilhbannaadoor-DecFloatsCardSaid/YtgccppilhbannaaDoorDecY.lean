/-
  The parts of a decimal: what stands ahead of the point, what behind it, and that without noughts at its end: as texts and as rows of digits. No program in sight.
-/
import Derived.Test.YtgccppilhbannaaDoorDecV
namespace Go.Proofs.YtgccppilhbannaaDoor
open Go.RowKit Go.PlainAid

/-- The digits with so many noughts ahead that at least k digits stand there. -/
def partS (ds : ByteArray) (k : Nat) : ByteArray := zeros (k - ds.size) ++ ds
theorem partS_size (ds : ByteArray) (k : Nat) : (partS ds k).size = max k ds.size := by unfold partS; rw [ByteArray.size_append, zeros_size]; omega
theorem partS_dig {ds : ByteArray} (h : AllDig ds) (k : Nat) : AllDig (partS ds k) := pad_dig h _
theorem dval_partS (ds : ByteArray) (k : Nat) : dval (partS ds k) = dval ds := dval_pad _ _
def wholeT (ds : ByteArray) (k : Nat) : ByteArray := (partS ds k).extract 0 ((partS ds k).size - k)
def behindT (ds : ByteArray) (k : Nat) : ByteArray := (partS ds k).extract ((partS ds k).size - k) (partS ds k).size
def shortT (ds : ByteArray) (k : Nat) : ByteArray := ⟨(Lib.trimRightB (behindT ds k).data.toList 48).toArray⟩
theorem behind_size (ds : ByteArray) (k : Nat) : (behindT ds k).size = k := by
  unfold behindT
  rw [size_sub _ _ _ (Nat.le_refl _), partS_size]
  omega
theorem sub_dig {s : ByteArray} (h : AllDig s) (a b : Nat) (hb : b ≤ s.size) : AllDig (s.extract a b) := allDig_sub hb fun k _ h2 => h k (by omega)
theorem whole_dig {ds : ByteArray} (h : AllDig ds) (k : Nat) : AllDig (wholeT ds k) := sub_dig (partS_dig h k) _ _ (by omega)
theorem behind_dig' {ds : ByteArray} (h : AllDig ds) (k : Nat) : AllDig (behindT ds k) := sub_dig (partS_dig h k) _ _ (Nat.le_refl _)
theorem split_at (s : ByteArray) (j : Nat) : s.extract 0 j ++ s.extract j s.size = s := by
  apply ext_list
  rw [app_list, sub_list, sub_list, List.take_of_length_le (show s.data.toList.length ≤ s.size by rw [size_list]; omega)]
  simp
theorem dval_parts {ds : ByteArray} (h : AllDig ds) (k : Nat) : dval (wholeT ds k) = dval ds / 10 ^ k ∧ dval (behindT ds k) = dval ds % 10 ^ k := by
  have h1 : dval (wholeT ds k ++ behindT ds k) = dval ds := by
    unfold wholeT behindT
    rw [split_at, dval_partS]
  rw [dval_app, behind_size] at h1
  have h2 := dval_lt (behind_dig' h k)
  rw [behind_size] at h2
  have hp : 0 < 10 ^ k := Nat.pow_pos (by decide)
  constructor
  · rw [← h1, Nat.add_comm, Nat.add_mul_div_right _ _ hp, Nat.div_eq_of_lt h2, Nat.zero_add]
  · rw [← h1, Nat.add_comm, Nat.add_mul_mod_self_right, Nat.mod_eq_of_lt h2]

/-- The digits behind the point, the lowest first. -/
def lowB (ds : ByteArray) (k : Nat) : List Nat := (rowH ds k).take k
/-- How many noughts stand at a row's beginning. -/
def lz (l : List Nat) : Nat := (l.takeWhile (· == 0)).length
theorem lz_le (l : List Nat) : lz l ≤ l.length := by
  unfold lz
  exact (List.takeWhile_prefix _).length_le
theorem lowB_length (ds : ByteArray) (k : Nat) : (lowB ds k).length = k := by
  unfold lowB
  rw [List.length_take, rowH_len, padL_length]
  omega
theorem lowB_eq (ds : ByteArray) (k : Nat) : lowB ds k = (dl (behindT ds k)).reverse := by
  have h1 : dl (behindT ds k) = (dl (partS ds k)).drop ((partS ds k).size - k) := by
    unfold behindT
    conv => lhs; unfold dl
    rw [sub_list, List.take_of_length_le (show (partS ds k).data.toList.length ≤ (partS ds k).size by rw [size_list]; omega), List.map_drop]
    rfl
  have h2 : (dl (partS ds k)).reverse = (dl ds).reverse ++ List.replicate (k - ds.size) 0 := by
    unfold partS
    rw [dl_app, dl_zeros, List.reverse_append, List.reverse_replicate]
  have h3 : ∀ (l : List Nat) (n : Nat), l.length = n → (l.drop (n - k)).reverse = l.reverse.take k := fun l n hn => by
    subst hn
    rw [List.take_reverse]
  rw [h1, h3 _ _ (dl_length _), h2]
  unfold lowB
  rw [rowH_eq]
  have h4 : (dl ds).reverse.length = ds.size := by rw [List.length_reverse, dl_length]
  rw [List.take_append, List.take_append, h4, List.take_replicate, List.take_replicate]
  congr 2
  omega
theorem lowB_lt {ds : ByteArray} (h : AllDig ds) (k : Nat) : ∀ d ∈ lowB ds k, d < 10 := fun d hd => rowH_lt h k d (List.mem_of_mem_take hd)
theorem rowval_lowB {ds : ByteArray} (h : AllDig ds) (k : Nat) : rowval (lowB ds k) = dval ds % 10 ^ k := by
  rw [lowB_eq, ← (dval_parts h k).2]
  rfl
theorem rowval_rowH (ds : ByteArray) (k : Nat) : rowval (rowH ds k) = dval ds := by
  rw [rowH_eq, rowval_append, rowval_zeros]
  unfold dval
  omega
theorem rowval_highB {ds : ByteArray} (h : AllDig ds) (k : Nat) : rowval ((rowH ds k).drop k) = dval ds / 10 ^ k := by
  have h1 := rowval_append ((rowH ds k).take k) ((rowH ds k).drop k)
  rw [List.take_append_drop, rowval_rowH] at h1
  have h2 : rowval ((rowH ds k).take k) = dval ds % 10 ^ k := rowval_lowB h k
  have h3 : ((rowH ds k).take k).length = k := lowB_length ds k
  rw [h2, h3] at h1
  have h4 := Nat.div_add_mod (dval ds) (10 ^ k)
  have hp : 0 < 10 ^ k := Nat.pow_pos (by decide)
  exact Nat.eq_of_mul_eq_mul_left hp (by omega)
theorem short_list (ds : ByteArray) (k : Nat) : (shortT ds k).data.toList = ((behindT ds k).data.toList.reverse.dropWhile (· == 48)).reverse := by simp [shortT, Lib.trimRightB]
theorem short_dl {ds : ByteArray} (h : AllDig ds) (k : Nat) : (dl (shortT ds k)).reverse = (lowB ds k).drop (lz (lowB ds k)) := by
  have h0 : ∀ b ∈ (behindT ds k).data.toList.reverse, 48 ≤ b.toNat ∧ b.toNat ≤ 57 := fun b hb => allDig_mem.1 (behind_dig' h k) b (by simpa using hb)
  have key : ∀ l : List UInt8, (∀ b ∈ l, 48 ≤ b.toNat ∧ b.toNat ≤ 57) → (l.dropWhile (· == 48)).map (fun b => b.toNat - 48) = (l.map (fun b => b.toNat - 48)).drop (lz (l.map (fun b => b.toNat - 48))) := by
    intro l
    induction l with
    | nil => intro _; rfl
    | cons b l ih =>
      intro hl
      have hb := hl b (by simp)
      by_cases e : b = 48
      · subst e
        have : lz (List.map (fun b : UInt8 => b.toNat - 48) (48 :: l)) = lz (List.map (fun b : UInt8 => b.toNat - 48) l) + 1 := by simp [lz]
        rw [this]
        simp only [List.dropWhile_cons, beq_self_eq_true, ↓reduceIte, List.map_cons, List.drop_succ_cons]
        exact ih fun x hx => hl x (by simp [hx])
      · have hne : b.toNat - 48 ≠ 0 := fun h2 => e (UInt8.toNat_inj.1 (by show b.toNat = 48; omega))
        have : lz (List.map (fun b : UInt8 => b.toNat - 48) (b :: l)) = 0 := by simp [lz, hne]
        rw [this]
        simp [e]
  rw [lowB_eq]
  have h1 := key _ h0
  unfold dl at h1 ⊢
  rw [short_list, List.map_reverse, List.reverse_reverse, h1, List.map_reverse]
theorem short_size {ds : ByteArray} (h : AllDig ds) (k : Nat) : (shortT ds k).size = k - lz (lowB ds k) := by
  have h1 := congrArg List.length (short_dl h k)
  rw [List.length_reverse, dl_length, List.length_drop, lowB_length] at h1
  exact h1
theorem dval_short {ds : ByteArray} (h : AllDig ds) (k : Nat) : dval (shortT ds k) = rowval ((lowB ds k).drop (lz (lowB ds k))) := by
  unfold dval
  rw [short_dl h]
theorem short_dig {ds : ByteArray} (h : AllDig ds) (k : Nat) : AllDig (shortT ds k) := allDig_mem.2 fun b hb => by
  rw [short_list] at hb
  have h1 := (List.dropWhile_suffix (l := (behindT ds k).data.toList.reverse) (· == 48)).subset (List.mem_reverse.1 hb)
  exact allDig_mem.1 (behind_dig' h k) b (List.mem_reverse.1 h1)
theorem mem_takeWhile_nat {l : List Nat} : ∀ b, b ∈ l.takeWhile (· == 0) → b = 0 := by
  induction l with
  | nil => intro b h; simp at h
  | cons x l ih =>
    intro b h
    rw [List.takeWhile_cons] at h
    split at h
    · rename_i hx
      rcases List.mem_cons.1 h with rfl | h
      · simpa using hx
      · exact ih b h
    · simp at h
/-- Where the noughts at a row's beginning end. -/
theorem lz_zero {l : List Nat} {j : Nat} (hj : j < lz l) (h : j < l.length) : l[j] = 0 := by
  unfold lz at hj
  have h1 : l[j] = (l.takeWhile (· == 0))[j] := by
    have := (List.takeWhile_prefix (p := (· == 0)) (l := l)).getElem hj
    exact this.symm
  have h2 := mem_takeWhile_nat (l := l) _ (List.getElem_mem hj)
  rw [h1]
  exact h2
theorem lz_ne {l : List Nat} (h : lz l < l.length) : l[lz l] ≠ 0 := by
  induction l with
  | nil => simp at h
  | cons x l ih =>
    by_cases hx : x = 0
    · subst hx
      have e : lz (0 :: l) = lz l + 1 := by simp [lz]
      simp only [e, List.getElem_cons_succ]
      exact ih (by rw [e] at h; simpa using h)
    · have e : lz (x :: l) = 0 := by simp [lz, hx]
      simp only [e, List.getElem_cons_zero]
      exact hx

/-- What plurals ask of a decimal: four decimals, two numbers. -/
abbrev madeA (r : Bool × ByteArray × Int × Int) : Value := .agg #[.bool r.1, .string r.2.1, .int .i64 r.2.2.1]
def opI (ds : ByteArray) (k : Nat) : Bool × ByteArray × Int × Int := madeR false (dval ds / 10 ^ k) 0
def opF (ds : ByteArray) (k : Nat) : Bool × ByteArray × Int × Int := madeR false (dval ds % 10 ^ k) 0
def opT (ds : ByteArray) (k : Nat) : Bool × ByteArray × Int × Int := madeR false (rowval ((lowB ds k).drop (lz (lowB ds k)))) 0
def opW (ds : ByteArray) (k : Nat) : Nat := k - lz (lowB ds k)
abbrev opsV (ds : ByteArray) (k : Nat) (rI rF rT : Bool × ByteArray × Int × Int) (W : Nat) : Value :=
  .agg #[.bool false, .string ds, .int .i64 k, .bool rI.1, .string rI.2.1, .int .i64 rI.2.2.1, .bool rF.1, .string rF.2.1, .int .i64 rF.2.2.1, .bool rT.1, .string rT.2.1, .int .i64 rT.2.2.1, .int .i64 k, .int .i64 W]
abbrev opsA (ds : ByteArray) (k : Nat) : Value := opsV ds k (opI ds k) (opF ds k) (opT ds k) (opW ds k)
end Go.Proofs.YtgccppilhbannaaDoor
