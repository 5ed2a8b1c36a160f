/-
  Laws and contracts taken over from earlier texts (cut out by a program of this seat's own, slice.py), as far as this seat needs them.
-/
import Derived.Test.YtgbemhehbhlgpaaGreatDoorPlDc
namespace Go.Proofs.YtgbemhehbhlgpaaGreatDoor
section
open Go.RowKit Go.PlainAid
theorem bt_sub (s : ByteArray) (a b k : Nat) (h : k < b - a) (hb : b ≤ s.size) : bt (s.extract a b) k = bt s (a + k) := by
  unfold bt
  rw [dif_pos (by simp; omega), dif_pos (by omega)]
  simp [ByteArray.getElem_extract]

theorem size_sub (s : ByteArray) (a b : Nat) (hb : b ≤ s.size) : (s.extract a b).size = b - a := by simp; omega

theorem bt_app (a b : ByteArray) (k : Nat) : bt (a ++ b) k = if k < a.size then bt a k else bt b (k - a.size) := by
  unfold bt
  by_cases h : k < a.size
  · rw [if_pos h, dif_pos (by rw [ByteArray.size_append]; omega), dif_pos h, ByteArray.getElem_append_left h]
  · rw [if_neg h]
    by_cases h2 : k - a.size < b.size
    · rw [dif_pos (by rw [ByteArray.size_append]; omega), dif_pos h2, ByteArray.getElem_append_right (by omega)]
    · rw [dif_neg (by rw [ByteArray.size_append]; omega), dif_neg h2]

theorem allDig_sub {s : ByteArray} {a b : Nat} (hb : b ≤ s.size) (h : ∀ k, a ≤ k → k < b → 48 ≤ bt s k ∧ bt s k ≤ 57) : AllDig (s.extract a b) := fun k hk => by
  rw [size_sub s a b hb] at hk
  rw [bt_sub s a b k hk hb]
  exact h _ (by omega) (by omega)

theorem allDig_app {a b : ByteArray} (ha : AllDig a) (hb : AllDig b) : AllDig (a ++ b) := fun k hk => by
  rw [ByteArray.size_append] at hk
  rw [bt_app]
  split
  · rename_i h; exact ha k h
  · exact hb _ (by omega)

end
section
open Go.RowKit Go.PlainAid
/-- So many noughts. -/
def zeros (k : Nat) : ByteArray := ⟨(List.replicate k (48 : UInt8)).toArray⟩

theorem zeros_list (k : Nat) : (zeros k).data.toList = List.replicate k 48 := by simp [zeros]

theorem zeros_size (k : Nat) : (zeros k).size = k := by simp [zeros, ByteArray.size]

theorem zeros_dig (k : Nat) : AllDig (zeros k) := allDig_mem.2 fun b hb => by
  rw [zeros_list] at hb
  rw [(List.mem_replicate.1 hb).2]
  decide

theorem repeat_zeros (k : Nat) : (⟨(Lib.repeatL [48] k).toArray⟩ : ByteArray) = zeros k := by
  have : Lib.repeatL [48] k = List.replicate k 48 := by
    induction k with
    | zero => rfl
    | succ k ih => simp [Lib.repeatL, List.replicate_succ, ih]
  rw [this]
  rfl

theorem app_list (a b : ByteArray) : (a ++ b).data.toList = a.data.toList ++ b.data.toList := by simp [ByteArray.data_append]

theorem dl_app (a b : ByteArray) : dl (a ++ b) = dl a ++ dl b := by unfold dl; rw [app_list, List.map_append]

theorem dl_zeros (k : Nat) : dl (zeros k) = List.replicate k 0 := by unfold dl; rw [zeros_list]; simp

theorem dval_app (a b : ByteArray) : dval (a ++ b) = dval a * 10 ^ b.size + dval b := by
  unfold dval
  rw [dl_app, List.reverse_append, rowval_append, List.length_reverse, dl_length, Nat.mul_comm, Nat.add_comm]

theorem dval_zeros (k : Nat) : dval (zeros k) = 0 := by unfold dval; rw [dl_zeros, List.reverse_replicate, rowval_zeros]

theorem dval_pad (k : Nat) (a : ByteArray) : dval (zeros k ++ a) = dval a := by rw [dval_app, dval_zeros]; omega

theorem dval_behind (a : ByteArray) (k : Nat) : dval (a ++ zeros k) = dval a * 10 ^ k := by rw [dval_app, dval_zeros, zeros_size]; omega

theorem dval_lt {a : ByteArray} (h : AllDig a) : dval a < 10 ^ a.size := by
  have := rowval_lt (l := (dl a).reverse) (fun d hd => dl_lt h d (by simpa using hd))
  rw [List.length_reverse, dl_length] at this
  exact this

theorem pad_dig {a : ByteArray} (h : AllDig a) (k : Nat) : AllDig (zeros k ++ a) := allDig_app (zeros_dig k) h

theorem behind_dig {a : ByteArray} (h : AllDig a) (k : Nat) : AllDig (a ++ zeros k) := allDig_app h (zeros_dig k)

theorem ext_list {a b : ByteArray} (h : a.data.toList = b.data.toList) : a = b := by
  apply ByteArray.ext
  exact Array.toList_inj.1 h

theorem sub_list (s : ByteArray) (i j : Nat) : (s.extract i j).data.toList = (s.data.toList.take j).drop i := by
  simp [ByteArray.data_extract, Array.toList_extract, List.extract, List.drop_take]

theorem size_list (s : ByteArray) : s.data.toList.length = s.size := (Lib.size_eq s).symm

/-- The digits of a text with a point among them, as a decimal is told. -/
def padL (l : List UInt8) (sc : Nat) : List UInt8 := List.replicate (sc + 1 - l.length) 48 ++ l

theorem padL_length (l : List UInt8) (sc : Nat) : (padL l sc).length = max (sc + 1) l.length := by simp [padL]; omega

end
section
open Go.RowKit Go.PlainAid
theorem repeat_any (k : Nat) (w : World) (hk : k ≤ 1000000000000) : Calls Tryz.prog 80 #[.string ⟨#[48]⟩, .int .i64 k] w fun e w' => e = .returned (.string (zeros k)) ∧ Below w.heap.size w w' := by
  have h := Tryz.strings_Repeat ⟨#[48]⟩ k w (by omega) (by show 1 * k ≤ _; omega)
  rw [← repeat_zeros]
  exact h

end
section
open Go.RowKit Go.PlainAid
theorem repeat_int (n : Int) (w : World) (h0 : 0 ≤ n) (hk : n ≤ 1000000000000) : Calls Tryz.prog 80 #[.string ⟨#[48]⟩, .int .i64 n] w fun e w' => e = .returned (.string (zeros n.toNat)) ∧ Below w.heap.size w w' := by
  obtain ⟨k, rfl⟩ : ∃ k : Nat, n = k := ⟨n.toNat, by omega⟩
  exact repeat_any k w (by omega)

theorem check_yes {neg : Bool} {ds : ByteArray} {sc : Int} (hr : rightB neg ds sc = true) (w : World) :
    Calls Tryz.prog 28 #[.agg #[.bool neg, .string ds, .int .i64 sc]] w fun e w' => e = .returned (.int .i64 0) ∧ Below w.heap.size w w' := by
  have h := check_any neg ds sc w
  rw [hr] at h
  exact h

theorem check_no {neg : Bool} {ds : ByteArray} {sc : Int} (hr : rightB neg ds sc = false) (w : World) :
    Calls Tryz.prog 28 #[.agg #[.bool neg, .string ds, .int .i64 sc]] w fun e w' => e = .returned (.int .i64 2) ∧ Below w.heap.size w w' := by
  have h := check_any neg ds sc w
  rw [hr] at h
  exact h

end
section
open Go.RowKit Go.PlainAid
theorem IntRow.form {base : Nat} {w : World} {v : Value} {l : List Nat} (h : IntRow base w v l) (n : Nat) (hn : l.length = n) : ∃ a cap, v = .slice a n cap := by
  subst hn
  rcases h.read with ⟨rfl, rfl⟩ | ⟨g, cap, rfl, _⟩
  · exact ⟨_, _, rfl⟩
  · exact ⟨_, _, rfl⟩

theorem ByteRow.form {base : Nat} {w : World} {v : Value} {l : List UInt8} (h : ByteRow base w v l) (n : Nat) (hn : l.length = n) : ∃ a cap, v = .slice a n cap := by
  subst hn
  rcases h.read with ⟨rfl, rfl⟩ | ⟨g, cap, rfl, _⟩
  · exact ⟨_, _, rfl⟩
  · exact ⟨_, _, rfl⟩

/-- The row of the digits, the lowest first. -/
def rowH (ds : ByteArray) (k : Nat) : List Nat := ((padL ds.data.toList k).map fun b => b.toNat - 48).reverse

theorem rowH_eq (ds : ByteArray) (k : Nat) : rowH ds k = (dl ds).reverse ++ List.replicate (k + 1 - ds.size) 0 := by
  unfold rowH padL dl
  rw [size_list]
  simp

theorem rowH_len (ds : ByteArray) (k : Nat) : (rowH ds k).length = (padL ds.data.toList k).length := by simp [rowH]

end
section
open Go.RowKit Go.PlainAid
/-- A slice of ints that reads as a row of digits. -/
def Ints (w : World) (v : Value) (l : List Nat) : Prop :=
  (l = [] ∧ ∃ a cap, v = .slice a 0 cap) ∨ ∃ g o cap, v = .slice (some ⟨g, o, none⟩) l.length cap ∧ g < w.heap.size ∧ l.length ≤ cap ∧ cap ≤ maxLen ∧ ∀ j (hj : j < l.length), w.cell? ⟨g, o + j, none⟩ = some (.int .i64 (l[j] : Int))

theorem IntRow.ints {base : Nat} {w : World} {v : Value} {l : List Nat} (h : IntRow base w v l) : Ints w v l := by
  rcases h.read with ⟨rfl, rfl⟩ | ⟨g, cap, rfl, _, hg, hc, hm, hcell⟩
  · exact .inl ⟨rfl, _, _, rfl⟩
  · exact .inr ⟨g, 0, cap, rfl, hg, hc, hm, fun j hj => by rw [Nat.zero_add]; exact (hcell j hj).1⟩

theorem Ints.later {B : Nat} {w w' : World} {v : Value} {l : List Nat} (h : Ints w v l) (hb : Below B w w') (hB : w.heap.size ≤ B) : Ints w' v l := by
  rcases h with h | ⟨g, o, cap, hv, hg, hc, hm, hcell⟩
  · exact .inl h
  · exact .inr ⟨g, o, cap, hv, Nat.lt_of_lt_of_le hg hb.size, hc, hm, fun j hj => (hb.cell (p := ⟨g, o + j, none⟩) (by show g < B; omega)).trans (hcell j hj)⟩

theorem Ints.form {w : World} {v : Value} {l : List Nat} (h : Ints w v l) (n : Nat) (hn : l.length = n) : ∃ a cap, v = .slice a n cap := by
  subst hn
  rcases h with ⟨rfl, a, cap, rfl⟩ | ⟨g, o, cap, rfl, _⟩
  · exact ⟨_, _, rfl⟩
  · exact ⟨_, _, rfl⟩

set_option maxRecDepth 100000 in
set_option maxHeartbeats 4000000 in
theorem rMade_ints_ne (neg : Bool) (v : Value) (l : List Nat) (sc : Int) (w : World) (hl : l ≠ []) (h10 : ∀ d ∈ l, d < 10) (hlen : l.length ≤ 1000000) (hr : Ints w v l) :
    Calls Tryz.prog 86 #[.bool neg, v, .int .i64 sc] w fun e w' => e = .returned (decE (madeR neg (rowval l) sc)) ∧ Below w.heap.size w w' := by
  obtain ⟨m, hm1, hm2, hz, hlast, htx⟩ := strip l hl h10
  rcases hr with ⟨h, _⟩ | ⟨g, o, cap, rfl, hg, hcap, _, hcell⟩
  · exact absurd h hl
  have HC := Lib.hid hcell; clear hcell
  have HT := Lib.hid htx; clear htx
  have HL := Lib.hid hlast; clear hlast
  have HZ := Lib.hid hz; clear hz
  have H10 := Lib.hid h10; clear h10
  clear hl
  have hmk := fun (n : Nat) (hn : n ≤ 1000000) (W : World) => run_make_row' (P := Tryz.prog) 93 5 (.int .u8 0) 1 Tryz.underlying93 infoByte rfl .i64 .i64 n (by omega) (by omega) W
  have HMK := Lib.hid hmk; clear hmk
  go_enter Tryz.func86, Tryz.ntmps86
  go_wp2_with fail
  have HW := Lib.hid (show (w.alloc (.cells #[.bool false, .string ⟨#[]⟩, .int .i64 0] 23)).heap.size = w.heap.size + 1 from World.size_alloc _ _)
  go_loop [8] (fun n => ∃ p : Nat, p + 1 ≤ l.length ∧ n = .int .i64 ((p : Int) + 1) ∧ m ≤ p + 1) (fun n => (intOf n).toNat)
  case atStart => exact ⟨l.length - 1, by omega, by congr 1; omega, by omega⟩
  case round =>
    obtain ⟨p, hp, rfl, hmp⟩ := hrel
    have hcl1 := HC.out p (by omega)
    by_cases hgo : m < p + 1
    · have hzp := HZ.out p (by omega) (by omega)
      rw [hzp] at hcl1
      cases p with
      | zero => omega
      | succ q =>
        clear hzp
        go_wp2
        go_round
        case rel => exact ⟨q, by omega, by go_num, by omega⟩
        case measure => simp [intOf]; omega
    · obtain rfl : m = p + 1 := by omega
      have hne : ¬ 0 < p ∨ (0 < p ∧ ((l[p]'(by omega) : Int) == 0) = false) := by
        by_cases hp0 : 0 < p
        · right
          rcases HL.out with h | ⟨h1, h2⟩
          · omega
          · have : l[p]'(by omega) ≠ 0 := h2
            refine ⟨hp0, ?_⟩
            simp
            omega
        · exact .inl hp0
      clear HL HZ hgo hmp hm2 hm1
      have hsz : (digs (rowval l)).size = p + 1 := by rw [← HT.out, textL_size]; simp; omega
      have HSZ := Lib.hid hsz; clear hsz
      by_cases h4 : 400 < p + 1
      · have HR := Lib.hid (show madeR neg (rowval l) sc = (false, ⟨#[]⟩, 0, 3) from if_pos (.inl (by have := HSZ.out; omega)))
        rcases hne with hne | ⟨hne, hne'⟩
        · omega
        · go_wp2
          go_returns
          exact ⟨ret_val (by rw [HR.out]), (Below.refl _ w).alloc (Nat.le_refl _) _⟩
      by_cases h5 : 400 < sc
      · have HR := Lib.hid (show madeR neg (rowval l) sc = (false, ⟨#[]⟩, 0, 3) from if_pos (.inr h5))
        rcases hne with hne | ⟨hne, hne'⟩
        all_goals
          go_wp2
          go_returns
          exact ⟨ret_val (by rw [HR.out]), (Below.refl _ w).alloc (Nat.le_refl _) _⟩
      have HR := Lib.hid (show madeR neg (rowval l) sc = (neg && rowval l != 0, digs (rowval l), sc, 0) from if_neg (by have := HSZ.out; omega))
      have hmk' : ∀ W : World, (Instr.makeSlice 93 (.int .i64 ((p : Int) + 1)) (.int .i64 ((p : Int) + 1))).run Tryz.prog W = .ok (.slice (some ⟨W.heap.size, 0, none⟩) (p + 1) (p + 1)) (W.alloc (.cells (madeCells #[.int .u8 0] (p + 1)) 5)) := fun W => HMK.out (p + 1) (by omega) W
      rcases hne with hne | ⟨hne, hne'⟩
      all_goals
        go_wp2
        have hcells : ∀ (W : World) (j : Nat), j < p + 1 → (W.alloc (.cells (madeCells #[.int .u8 0] (p + 1)) 5)).cell? ⟨W.heap.size, j, none⟩ = some (.int .u8 0) ∧ (W.alloc (.cells (madeCells #[.int .u8 0] (p + 1)) 5)).frozen? ⟨W.heap.size, j, none⟩ = false := fun W j hj => by
          refine ⟨?_, ?_⟩
          · rw [World.cell?_alloc_mark]
            rw [← Array.getElem?_toList, toList_madeCells_one, List.getElem?_replicate, if_pos hj]
          · rw [World.frozen?_alloc_mark]; simp
        have hB1 : Below (w.heap.size + 1) (w.alloc (.cells #[.bool false, .string ⟨#[]⟩, .int .i64 0] 23)) ((w.alloc (.cells #[.bool false, .string ⟨#[]⟩, .int .i64 0] 23)).alloc (.cells (madeCells #[.int .u8 0] (p + 1)) 5)) := (Below.refl _ _).alloc (by simp) _
        have hO : OutI (w.heap.size + 1) (p + 1) l 0 ((w.alloc (.cells #[.bool false, .string ⟨#[]⟩, .int .i64 0] 23)).alloc (.cells (madeCells #[.int .u8 0] (p + 1)) 5)) := fun j hj => by
          have h := hcells (w.alloc (.cells #[.bool false, .string ⟨#[]⟩, .int .i64 0] 23)) j hj
          rw [HW.out] at h
          rw [if_neg (by omega)]
          exact h
        have hW0 := (Below.refl w.heap.size w).alloc (Nat.le_refl _) (.cells #[.bool false, .string ⟨#[]⟩, .int .i64 0] 23)
        have r0 : (w.alloc (.cells #[.bool false, .string ⟨#[]⟩, .int .i64 0] 23)).cell? ⟨w.heap.size, 0, none⟩ = some (.bool false) := by go_simp
        have r1 : (w.alloc (.cells #[.bool false, .string ⟨#[]⟩, .int .i64 0] 23)).cell? ⟨w.heap.size, 1, none⟩ = some (.string ⟨#[]⟩) := by go_simp
        have r2 : (w.alloc (.cells #[.bool false, .string ⟨#[]⟩, .int .i64 0] 23)).cell? ⟨w.heap.size, 2, none⟩ = some (.int .i64 0) := by go_simp
        have f0 : ∀ j, (w.alloc (.cells #[.bool false, .string ⟨#[]⟩, .int .i64 0] 23)).frozen? ⟨w.heap.size, j, none⟩ = false := fun j => by go_simp
        generalize (w.alloc (.cells #[.bool false, .string ⟨#[]⟩, .int .i64 0] 23)).alloc (.cells (madeCells #[.int .u8 0] (p + 1)) 5) = W1 at *
        clear hcells hmk'
        have HO := Lib.hid hO; clear hO
        generalize w.alloc (.cells #[.bool false, .string ⟨#[]⟩, .int .i64 0] 23) = W0 at *
        have HF0 := Lib.hid f0; clear f0
        have R0 := Lib.hid r0; have R1 := Lib.hid r1; have R2 := Lib.hid r2
        clear r0 r1 r2
        go_loopw [10] (fun i wr => ∃ k : Nat, k ≤ p + 1 ∧ i = .int .i64 k ∧ Below (w.heap.size + 1) W0 wr ∧ OutI (w.heap.size + 1) (p + 1) l k wr) (fun i _ => p + 1 - (intOf i).toNat)
        case atStart => exact ⟨0, Nat.zero_le _, rfl, hB1, HO.out⟩
        case round =>
          obtain ⟨k, hk, rfl, hB, hI⟩ := hrel
          have HI := Lib.hid hI; clear hI
          have hBw := hW0.trans (hB.mono (by omega))
          have hzw : w.heap.size + 1 ≤ wr.heap.size := by have := hB.size; have := HW.out; omega
          have HZW := Lib.hid hzw; clear hzw
          by_cases hkp : k < p + 1
          · have hck := (hBw.cell (p := ⟨g, o + k, none⟩) hg).trans (HC.out k (by omega))
            have hd := H10.out _ (List.getElem_mem (show k < l.length by omega))
            have hx := HI.out (p - k) (by omega)
            rw [show p + 1 - 1 - (p - k) = k by omega, if_neg (by omega)] at hx
            obtain ⟨hx1, hx2⟩ := hx
            go_wp2
            go_roundw
            case rel => exact ⟨k + 1, by omega, by go_num, hB.setCell (by simp) _, outI_set HI.out hkp (by omega)⟩
            case measure => simp [intOf]; omega
          · obtain rfl : k = p + 1 := by omega
            have hby := outI_text HI.out hp H10.out
            rw [HT.out] at hby
            have hback := Lib.run_convert_whole (P := Tryz.prog) wr 93 5 9 Tryz.underlying93 Tryz.underlying5 Tryz.underlying9 _ _ _ hby (p + 1)
            rw [HSZ.out] at hback
            have hzw : w.heap.size < wr.heap.size := by have := HZW.out; omega
            have r0 := (hB.cell (p := ⟨w.heap.size, 0, none⟩) (by simp)).trans R0.out
            have r1 := (hB.cell (p := ⟨w.heap.size, 1, none⟩) (by simp)).trans R1.out
            have r2 := (hB.cell (p := ⟨w.heap.size, 2, none⟩) (by simp)).trans R2.out
            have f0 := (hB.frozen (p := ⟨w.heap.size, 0, none⟩) (by simp)).trans (HF0.out 0)
            have f1 := (hB.frozen (p := ⟨w.heap.size, 1, none⟩) (by simp)).trans (HF0.out 1)
            have f2 := (hB.frozen (p := ⟨w.heap.size, 2, none⟩) (by simp)).trans (HF0.out 2)
            by_cases hv : rowval l = 0
            · have e1 : digs (rowval l) = ⟨#[48]⟩ := by rw [hv]; decide +kernel
              have HR' := Lib.hid (show madeR neg (rowval l) sc = (false, ⟨#[48]⟩, sc, 0) by rw [HR.out, e1, hv]; simp)
              rw [e1] at hback
              clear e1 hv
              go_wp2
              refine bodyPost_ret (v := .tuple #[.agg #[.bool false, .string ⟨#[48]⟩, .int .i64 sc], .int .i64 0]) (by simp [results, Tryz.results86, go_sem, hzw, r0, r1, r2]) rfl ⟨?_, ?_⟩
              · exact ret_val (by rw [HR'.out])
              · exact (((hBw.setCell (p := ⟨w.heap.size, 0, none⟩) (Nat.le_refl _) _).setCell (p := ⟨w.heap.size, 1, none⟩) (Nat.le_refl _) _).setCell (p := ⟨w.heap.size, 2, none⟩) (Nat.le_refl _) _).alloc (by simp; omega) _
            · have e1 : ((digs (rowval l)).toList == [48]) = false := digs_ne hv
              have HR' := Lib.hid (show madeR neg (rowval l) sc = (neg, digs (rowval l), sc, 0) by rw [HR.out]; simp [hv])
              generalize digs (rowval l) = t at *
              clear hv
              go_wp2
              refine bodyPost_ret (v := .tuple #[.agg #[.bool neg, .string t, .int .i64 sc], .int .i64 0]) (by simp [results, Tryz.results86, go_sem, hzw, r0, r1, r2]) rfl ⟨?_, ?_⟩
              · exact ret_val (by rw [HR'.out])
              · exact (((hBw.setCell (p := ⟨w.heap.size, 0, none⟩) (Nat.le_refl _) _).setCell (p := ⟨w.heap.size, 1, none⟩) (Nat.le_refl _) _).setCell (p := ⟨w.heap.size, 2, none⟩) (Nat.le_refl _) _).alloc (by simp; omega) _

/-- The reference's Made at every row of digits that can be read. -/
theorem rMade_ints (neg : Bool) (v : Value) (l : List Nat) (sc : Int) (w : World) (h10 : ∀ d ∈ l, d < 10) (hlen : l.length ≤ 1000000) (hr : Ints w v l) :
    Calls Tryz.prog 86 #[.bool neg, v, .int .i64 sc] w fun e w' => e = .returned (decE (madeR neg (rowval l) sc)) ∧ Below w.heap.size w w' := by
  by_cases hl : l = []
  · subst hl
    obtain ⟨a, cap, rfl⟩ := hr.form 0 rfl
    exact rMade_nil neg a cap sc w
  · exact rMade_ints_ne neg v l sc w hl h10 hlen hr

end
section
open Go.RowKit Go.PlainAid
/-- A decimal lies in a block. -/
def Dec3 (w : World) (b : Nat) (neg : Bool) (ds : ByteArray) (sc : Int) : Prop :=
  w.cell? ⟨b, 0, none⟩ = some (.bool neg) ∧ w.cell? ⟨b, 1, none⟩ = some (.string ds) ∧ w.cell? ⟨b, 2, none⟩ = some (.int .i64 sc)

theorem Dec3.new (w : World) (neg : Bool) (ds : ByteArray) (sc : Int) : Dec3 (w.alloc (.cells #[.bool neg, .string ds, .int .i64 sc] 23)) w.heap.size neg ds sc := ⟨by go_simp, by go_simp, by go_simp⟩

theorem Dec3.alloc {w : World} {b : Nat} {neg : Bool} {ds : ByteArray} {sc : Int} (h : Dec3 w b neg ds sc) (o : Obj) : Dec3 (w.alloc o) b neg ds sc := by
  have hb : b < w.heap.size := World.block_lt_of_cell? w ⟨b, 0, none⟩ h.1
  have hB := (Below.refl w.heap.size w).alloc (Nat.le_refl _) o
  exact ⟨(hB.cell (p := ⟨b, 0, none⟩) hb).trans h.1, (hB.cell (p := ⟨b, 1, none⟩) hb).trans h.2.1, (hB.cell (p := ⟨b, 2, none⟩) hb).trans h.2.2⟩

theorem Dec3.later {B : Nat} {w w' : World} {b : Nat} {neg : Bool} {ds : ByteArray} {sc : Int} (h : Dec3 w b neg ds sc) (hB : Below B w w') (hb : b < B) : Dec3 w' b neg ds sc :=
  ⟨(hB.cell (p := ⟨b, 0, none⟩) hb).trans h.1, (hB.cell (p := ⟨b, 1, none⟩) hb).trans h.2.1, (hB.cell (p := ⟨b, 2, none⟩) hb).trans h.2.2⟩

theorem Dec3.on {w w' : World} {b : Nat} {neg : Bool} {ds : ByteArray} {sc : Int} (h : Dec3 w b neg ds sc) (hB : Below w.heap.size w w') : Dec3 w' b neg ds sc :=
  h.later hB (World.block_lt_of_cell? w ⟨b, 0, none⟩ h.1)

/-- A place in a text, told in a block. -/
def Spot2 (w : World) (b : Nat) (e at_ : Int) : Prop := w.cell? ⟨b, 0, none⟩ = some (.int .i64 e) ∧ w.cell? ⟨b, 1, none⟩ = some (.int .i64 at_)

theorem Spot2.new (w : World) (e k : Int) : Spot2 (w.alloc (.cells #[.int .i64 e, .int .i64 k] 53)) w.heap.size e k := ⟨by go_simp, by go_simp⟩

theorem Spot2.alloc {w : World} {b : Nat} {e k : Int} (h : Spot2 w b e k) (o : Obj) : Spot2 (w.alloc o) b e k := by
  have hb : b < w.heap.size := World.block_lt_of_cell? w ⟨b, 0, none⟩ h.1
  have hB := (Below.refl w.heap.size w).alloc (Nat.le_refl _) o
  exact ⟨(hB.cell (p := ⟨b, 0, none⟩) hb).trans h.1, (hB.cell (p := ⟨b, 1, none⟩) hb).trans h.2⟩

theorem Spot2.on {w w' : World} {b : Nat} {e k : Int} (h : Spot2 w b e k) (hB : Below w.heap.size w w') : Spot2 w' b e k :=
  have hb : b < w.heap.size := World.block_lt_of_cell? w ⟨b, 0, none⟩ h.1
  ⟨(hB.cell (p := ⟨b, 0, none⟩) hb).trans h.1, (hB.cell (p := ⟨b, 1, none⟩) hb).trans h.2⟩

end
end Go.Proofs.YtgbemhehbhlgpaaGreatDoor
