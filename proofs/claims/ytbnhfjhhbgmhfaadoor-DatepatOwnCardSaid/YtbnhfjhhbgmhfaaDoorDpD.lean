/-
  Patterns of dates: dress, the program's; double, the reference's.
-/
import Derived.Test.YtbnhfjhhbgmhfaaDoorDpI
import Derived.Test.YtbnhfjhhbgmhfaaDoorDpYr
import Derived.Deep.RegionWith
import Derived.Deep.RegionHeld3
namespace Go.Proofs.YtbnhfjhhbgmhfaaDoor
open Go.RowKit Go.PlainAid

/-- What the world holds: Go's two tables of utf8, and some number in bytealg's MaxLen. -/
def Gl (w : World) : Prop := Lib.Utf8Tabs 1 2 w ∧ ∃ m, w.cell? ⟨0, 0, none⟩ = some (.int .i64 m)
theorem cell_later {w w' : World} {b o : Nat} {v : Value} (h : w.cell? ⟨b, o, none⟩ = some v) (hb : Below w.heap.size w w') : w'.cell? ⟨b, o, none⟩ = some v :=
  (hb.cell (p := ⟨b, o, none⟩) (World.block_lt_of_cell? w ⟨b, o, none⟩ h)).trans h
theorem Gl.later {w w' : World} (h : Gl w) (hb : Below w.heap.size w w') : Gl w' := by
  obtain ⟨⟨h1, h2⟩, m, h3⟩ := h
  exact ⟨⟨fun c hc => cell_later (h1 c hc) hb, fun i hi => ⟨cell_later (h2 i hi).1 hb, cell_later (h2 i hi).2 hb⟩⟩, m, cell_later h3 hb⟩
/-- The same, and that nothing below has changed. -/
def GB (w0 w : World) : Prop := Gl w ∧ Below w0.heap.size w0 w
theorem GB.on {w0 w w' : World} (h : GB w0 w) (hb : Below w.heap.size w w') : GB w0 w' := ⟨h.1.later hb, h.2.trans (hb.mono h.2.size)⟩
theorem GB.drew {w0 w : World} (h : GB w0 w) : GB w0 w.drew := h.on (Below.refl _ _).drew
theorem GB.start {w : World} (h : Gl w) : GB w w := ⟨h, Below.refl _ _⟩
theorem GB.alloc {w0 w : World} (h : GB w0 w) (o : Obj) : GB w0 (w.alloc o) := h.on ((Below.refl _ _).alloc (Nat.le_refl _) o)

set_option maxRecDepth 100000 in
set_option maxHeartbeats 1000000 in
theorem dbl1_any (s : ByteArray) (w : World) (hs : s.size ≤ 1000000000) (hG : Gl w) :
    Calls Tryd.prog 62 #[.string s] w fun e w' => e = .returned (.string (dblB s)) ∧ Below w.heap.size w w' := by
  obtain ⟨_, m, hm⟩ := hG
  have hc := Tryd.strings_ReplaceAll s ⟨#[39]⟩ ⟨#[39, 39]⟩ m w (by omega) hm (by decide) (by have := count39_le s; have h2 : (⟨#[39, 39]⟩ : ByteArray).size = 2 := rfl; rw [h2]; omega)
  rw [replaceAll_dbl] at hc
  go_enter Tryd.func62, Tryd.ntmps62
  go_wp2_with fail
  refine hc.mono ?_
  rintro e w' ⟨rfl, hB⟩
  go_wp2_with fail
  go_ret
  exact ⟨rfl, hB⟩

set_option maxRecDepth 100000 in
set_option maxHeartbeats 1000000 in
theorem pred2_any (x : Nat) (w : World) :
    Calls Tryd.prog 65 #[.int .i32 x] w fun e w' => e = .returned (.bool (pLet x)) ∧ w' = w := by
  have hl := fun b W => letter_any b W
  by_cases h : (x : Int) < 128
  · have hx : IntKind.u8.wrap (x : Int) = x := by rw [IntKind.wrap_u8]; omega
    go_enter Tryd.func65, Tryd.ntmps65
    go_wp2_with fail
    refine (hl _ _).mono ?_
    rintro e w' ⟨rfl, rfl⟩
    go_wp2_with fail
    go_ret
    exact ⟨ret_bool rfl, rfl⟩
  · have hp : pLet x = false := bLetter_hi (by omega)
    have HP := Lib.hid hp
    clear hp
    go_enter Tryd.func65, Tryd.ntmps65
    go_wp2_with fail
    go_ret
    exact ⟨ret_bool HP.out.symm, rfl⟩
set_option maxRecDepth 100000 in
set_option maxHeartbeats 1000000 in
theorem pred3_any (x : Nat) (w : World) :
    Calls Tryd.prog 67 #[.int .i32 x] w fun e w' => e = .returned (.bool (pLet x)) ∧ w' = w := by
  have hl := fun b W => letter_any b W
  by_cases h : (x : Int) < 128
  · have hx : IntKind.u8.wrap (x : Int) = x := by rw [IntKind.wrap_u8]; omega
    go_enter Tryd.func67, Tryd.ntmps67
    go_wp2_with fail
    refine (hl _ _).mono ?_
    rintro e w' ⟨rfl, rfl⟩
    go_wp2_with fail
    go_ret
    exact ⟨ret_bool rfl, rfl⟩
  · have hp : pLet x = false := bLetter_hi (by omega)
    have HP := Lib.hid hp
    clear hp
    go_enter Tryd.func67, Tryd.ntmps67
    go_wp2_with fail
    go_ret
    exact ⟨ret_bool HP.out.symm, rfl⟩
theorem dbl1_gb (w0 : World) (s : ByteArray) (w : World) (hs : s.size ≤ 1000000000) (hG : GB w0 w) :
    Calls Tryd.prog 62 #[.string s] w fun e w' => e = .returned (.string (dblB s)) ∧ GB w0 w' := (dbl1_any s w hs hG.1).mono fun _ _ ⟨h1, h2⟩ => ⟨h1, hG.on h2⟩
theorem idx_any (s : ByteArray) (w : World) :
    Calls Tryd.prog 64 #[.string s, .func (.func 65) #[] #[]] w fun e w' => e = .returned (.int .i64 (fstL s)) ∧ Below w.heap.size w w' := by
  have h := Tryd.strings_IndexFunc_grows 65 #[] (enters_of Tryd.func65 (by kernel_rfl) rfl) pLet s w (fun W x _ _ => (pred2_any x W).mono fun e w' ⟨h1, h2⟩ => ⟨h1, h2 ▸ Below.refl _ _⟩)
  rw [idxFunc_fst] at h
  exact h
set_option maxRecDepth 100000 in
set_option maxHeartbeats 1000000 in
theorem lst_any (s : ByteArray) (w : World) (hs : s.size ≤ 1000000000) (hG : Gl w) :
    Calls Tryd.prog 66 #[.string s, .func (.func 67) #[] #[]] w fun e w' => e = .returned (.int .i64 (lstL s)) ∧ Below w.heap.size w w' := by
  have h := Tryd.strings_lastIndexFunc_grows 67 #[] (enters_of Tryd.func67 (by kernel_rfl) rfl) pLet true s w (by omega) hG.1 (fun W x _ _ => (pred3_any x W).mono fun e w' ⟨h1, h2⟩ => ⟨h1, h2 ▸ Below.refl _ _⟩)
  rw [idxFunc_lst] at h
  go_enter Tryd.func66, Tryd.ntmps66
  go_wp2_with fail
  refine h.mono ?_
  rintro e w' ⟨rfl, hB⟩
  go_wp2_with fail
  go_ret
  exact ⟨rfl, hB⟩

theorem dress_bd (s : ByteArray) : (fstL s = -1 ∧ lstL s = -1) ∨ (0 ≤ fstL s ∧ fstL s ≤ lstL s ∧ lstL s < s.size) := by
  have h := fst_lst s s.size
  have h1 := fstF_bd s s.size 0
  have h2 := lstF_bd s s.size
  unfold fstL lstL
  omega

set_option maxRecDepth 100000 in
set_option maxHeartbeats 4000000 in
theorem dress_any (s : ByteArray) (w : World) (hs : s.size ≤ 100000000) (hG : Gl w) :
    Calls Tryd.prog 42 #[.string s] w fun e w' => e = .returned (.string (dress s)) ∧ Below w.heap.size w w' := by
  have hix := fun W => idx_any s W
  have hls := fun W h => lst_any s W (by omega) h
  rcases dress_bd s with ⟨h1, h2⟩ | ⟨h0, h1, h2⟩
  · have hd : dress s = dblB s := by unfold dress dressB; rw [if_pos (by omega)]
    have HD := Lib.hid hd
    rw [h1] at hix
    clear hd h1 h2 hls
    go_enter Tryd.func42, Tryd.ntmps42
    go_wp2_with fail
    refine (hix _).mono ?_
    rintro e w1 ⟨rfl, hB1⟩
    go_wp2_with fail
    refine (dbl1_any s _ (by omega) (hG.later hB1)).mono ?_
    rintro e w2 ⟨rfl, hB2⟩
    go_wp2_with fail
    go_ret
    exact ⟨congrArg (fun x => Ending.returned (.string x)) HD.out.symm, hB1.trans (hB2.mono hB1.size)⟩
  · have hd : dress s = dressB s (fstL s) (lstL s) := rfl
    have HD := Lib.hid hd
    generalize fstL s = f at *
    generalize lstL s = l at *
    obtain ⟨f, rfl⟩ : ∃ n : Nat, f = n := ⟨f.toNat, by omega⟩
    obtain ⟨m, rfl⟩ : ∃ n : Nat, l = (n : Int) - 1 := ⟨(l + 1).toNat, by omega⟩
    clear hd
    have f0 : (0 : Int) ≤ f := by omega
    have f1 : (f : Int) ≤ s.size := by omega
    have l1 : (m : Int) ≤ s.size := by omega
    have fl : (f : Int) ≤ (m : Int) := by omega
    clear h0 h1 h2
    go_enter Tryd.func42, Tryd.ntmps42
    go_wp2_with fail
    refine (hix _).mono ?_
    rintro e w1 ⟨rfl, hB1⟩
    have hG1 := hG.later hB1
    go_wp2_with fail
    refine (hls _ hG1).mono ?_
    rintro e w2 ⟨rfl, hB2⟩
    have h3 : GB w w2 := ((GB.start hG).on hB1).on hB2
    clear hG1 hB1 hB2 hix hls
    go_wp2_with fail
    have b1 : (dblB (s.extract 0 f)).size ≤ 200000000 := by have := dblB_le (s.extract 0 f); simp at this; omega
    have b2 : (dblB (s.extract f m)).size ≤ 200000000 := by have := dblB_le (s.extract f m); simp at this; omega
    have b3 : (dblB (s.extract m s.size)).size ≤ 200000000 := by have := dblB_le (s.extract m s.size); simp at this; omega
    have n1 : ¬ 9223372036854775807 < (dblB (s.extract 0 f)).size + 1 := by omega
    have n2 : ¬ 9223372036854775807 < (dblB (s.extract 0 f)).size + 1 + (dblB (s.extract f m)).size := by omega
    have n3 : ¬ 9223372036854775807 < (dblB (s.extract 0 f)).size + 1 + (dblB (s.extract f m)).size + 1 := by omega
    have n4 : ¬ 9223372036854775807 < (dblB (s.extract 0 f)).size + 1 + (dblB (s.extract f m)).size + 1 + (dblB (s.extract m s.size)).size := by omega
    go_region_held3 (fun w' => GB w w') (first | exact h4 | exact h3.drew | exact h3)
      (first
        | (go_at_call 62; refine (dbl1_gb w _ _ (by simp; omega) (by first | exact h4 | exact h3.drew | exact h3)).mono ?_; rintro e w3 ⟨rfl, h4⟩))
    go_wp2_with fail
    go_ret
    refine ⟨congrArg (fun x => Ending.returned (.string x)) ?_, h4.2⟩
    rw [HD.out]
    unfold dressB
    rw [if_neg (by omega), show ((f : Nat) : Int).toNat = f from rfl, show ((m : Int) - 1 + 1).toNat = m by omega]
theorem dressB_size (s : ByteArray) (f l : Int) : (dressB s f l).size ≤ 6 * s.size + 2 := by
  unfold dressB
  by_cases h : f < 0
  · rw [if_pos h]
    have := dblB_le s
    omega
  · rw [if_neg h]
    have h1 := dblB_le (s.extract 0 f.toNat)
    have h2 := dblB_le (s.extract f.toNat (l + 1).toNat)
    have h3 := dblB_le (s.extract (l + 1).toNat s.size)
    rw [ByteArray.size_append, ByteArray.size_append, ByteArray.size_append, ByteArray.size_append, show (⟨#[39]⟩ : ByteArray).size = 1 from rfl]
    simp at h1 h2 h3
    omega
theorem dress_size (s : ByteArray) : (dress s).size ≤ 6 * s.size + 2 := dressB_size s _ _

/-- A text doubled, byte by byte. -/
theorem dblB_next (s : ByteArray) (i : Nat) (h : i < s.size) : dblB (s.extract 0 (i + 1)) = dblB (s.extract 0 i) ++ s.extract i (i + 1) ++ (if bt s i = 39 then ⟨#[39]⟩ else ⟨#[]⟩) := by
  have hl : i < s.data.toList.length := by rw [Array.length_toList]; exact h
  have e : ∀ k, (s.extract 0 k).data.toList = s.data.toList.take k := by
    intro k
    rw [ByteArray.data_extract, Array.toList_extract, List.extract_eq_take_drop]
    simp
  have hb : bt s i = 39 ↔ s.data.toList[i] = 39 := by
    unfold bt
    rw [dif_pos h, Array.getElem_toList]
    show ((s[i].toNat : Nat) : Int) = 39 ↔ s[i] = 39
    constructor
    · intro h; exact UInt8.toNat_inj.1 (by have : (39 : UInt8).toNat = 39 := rfl; omega)
    · intro h; rw [h]; rfl
  apply ByteArray.ext
  apply Array.toList_inj.1
  unfold dblB
  rw [ByteArray.data_append, ByteArray.data_append, Array.toList_append, Array.toList_append, one_byte s i h]
  show List.flatMap _ (s.extract 0 (i + 1)).data.toList = List.flatMap _ (s.extract 0 i).data.toList ++ _ ++ _
  rw [e, e, List.take_succ_eq_append_getElem hl, List.flatMap_append, List.append_assoc]
  congr 1
  by_cases h39 : bt s i = 39
  · rw [if_pos h39]
    have := hb.1 h39
    rw [List.flatMap_cons, this, if_pos rfl]
    have h2 : s[i]'h = 39 := this
    rw [h2]
    rfl
  · rw [if_neg h39]
    have h2 : ¬ s.data.toList[i] = 39 := fun h => h39 (hb.2 h)
    rw [List.flatMap_cons, if_neg h2]
    rfl
theorem dblB_whole (s : ByteArray) : dblB (s.extract 0 s.size) = dblB s := by rw [show s.extract 0 s.size = s by simp]

set_option maxRecDepth 100000 in
set_option maxHeartbeats 1000000 in
theorem rDouble_any (s : ByteArray) (w : World) (hs : s.size ≤ 1000000000) :
    Calls Tryd.prog 48 #[.string s] w fun e w' => e = .returned (.string (dblB s)) ∧ w' = w := by
  go_enter Tryd.func48, Tryd.ntmps48
  go_wp2_with fail
  go_loopg [3, 4] s.size (fun g s3 s4 wr => ∃ i : Nat, s4 = .int .i64 (i : Int) ∧ i + g = s.size ∧ s3 = .string (dblB (s.extract 0 i)) ∧ wr = w)
  case atStart => exact ⟨0, rfl, by omega, by rw [show s.extract 0 0 = ByteArray.empty by simp]; rfl, rfl⟩
  case round =>
    obtain ⟨i, rfl, hg, rfl, rfl⟩ := hrel
    have hz := dblB_le (s.extract 0 i)
    by_cases hi : i < s.size
    · have hn := dblB_next s i hi
      have HN := Lib.hid hn
      have hsz : (s.extract 0 i).size ≤ 1000000000 := by simp; omega
      have hbt : ((s[i]'hi).toNat : Int) = bt s i := by unfold bt; rw [dif_pos hi]
      have hi2 : (i : Int) + 1 ≤ s.size := by omega
      have hi1 : ((i : Int) + 1).toNat = i + 1 := by omega
      have h1 : (s.extract i (i + 1)).size = 1 := by simp; omega
      have H1 := Lib.hid h1
      clear hn h1
      by_cases h39 : bt s i = 39
      · have hbe : (bt s i == 39) = true := by simp [h39]
        have H39 := Lib.hid h39
        clear h39
        go_wp2_with fail
        go_roundg (gk - 1)
        case rel => exact ⟨i + 1, by push_cast; rfl, by omega, by rw [HN.out, if_pos H39.out], rfl⟩
        case measure => omega
      · have hbe : (bt s i == 39) = false := by simp [h39]
        have H39 := Lib.hid h39
        clear h39
        go_wp2_with fail
        go_roundg (gk - 1)
        case rel => exact ⟨i + 1, by push_cast; rfl, by omega, by rw [HN.out, if_neg H39.out]; rw [show (⟨#[]⟩ : ByteArray) = ByteArray.empty from rfl, ByteArray.append_empty], rfl⟩
        case measure => omega
    · have he : i = s.size := by omega
      subst he
      have hw := dblB_whole s
      have HW := Lib.hid hw
      clear hw hi
      go_wp2_with fail
      go_ret
      exact ⟨congrArg (fun x => Ending.returned (.string x)) HW.out, rfl⟩
end Go.Proofs.YtbnhfjhhbgmhfaaDoor
