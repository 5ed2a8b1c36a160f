/-
  Patterns of dates: Print, the program's.
-/
import Derived.Test.YtbnhfjhhbgmhfaaDoorDpE
namespace Go.Proofs.YtbnhfjhhbgmhfaaDoor
open Go.RowKit Go.PlainAid

/-- Fields of no great size, with letters that are bytes. -/
def PFsz (l : List PF) : Prop := l.length ≤ 1100000 ∧ ∀ x ∈ l, 0 ≤ x.1 ∧ x.1 ≤ 255 ∧ x.2.2.size ≤ 1100000
theorem mayF_all : ∀ (l : List PF) (p : Int), mayF p l = true → ∀ x ∈ l, fldB x = true
  | [], _, _, x, hx => absurd hx (by simp)
  | y :: r, p, h, x, hx => by
    have h' : (fldB y && p != y.1 && mayF y.1 r) = true := h
    simp only [Bool.and_eq_true] at h'
    rcases List.mem_cons.1 hx with rfl | hx
    · exact h'.1.1
    · exact mayF_all r _ h'.2 x hx
theorem PFsz.ok {l : List PF} (h : PFsz l) : PFok l := fun x hx => ⟨(h.2 x hx).1, (h.2 x hx).2.1, by have := (h.2 x hx).2.2; omega⟩
theorem PFsz.fin {l : List PF} (h : PFsz l) (hm : mayB l = true) : PFin l := ⟨h.1, fun x hx => ⟨mayF_all l _ hm x hx, h.2 x hx⟩⟩

theorem bld_later {B b : Nat} {bs : List Value} {w w' : World} (h : IsBld B b bs w) (hb : Below w.heap.size w w') : IsBld B b bs w' := by
  have key : ∀ p, BldAt B b p bs w → BldAt B b p bs w' := by
    rintro p ⟨h1, v, h2, h3, h4⟩
    refine ⟨h1, v, (hb.block b (Array.getElem?_eq_some_iff.1 h2).1).trans h2, ?_, h4⟩
    obtain ⟨k1, k2⟩ := h3
    refine ⟨k1, ?_⟩
    rcases k2 with k2 | ⟨g, cap, cur, hv, hg, hh, r⟩
    · exact .inl k2
    · exact .inr ⟨g, cap, cur, hv, hg, (hb.block g (Array.getElem?_eq_some_iff.1 hh).1).trans hh, r⟩
  rcases h with h | h
  · exact .inl (key _ h)
  · exact .inr (key _ h)
theorem bld_lt {B b : Nat} {bs : List Value} {w : World} (h : IsBld B b bs w) : b < w.heap.size ∧ B ≤ b := by
  rcases h with ⟨h1, v, h2, _⟩ | ⟨h1, v, h2, _⟩
  · exact ⟨(Array.getElem?_eq_some_iff.1 h2).1, h1⟩
  · exact ⟨(Array.getElem?_eq_some_iff.1 h2).1, h1⟩
/-- The bytes of a text as cells. -/
def tc (t : ByteArray) : List Value := Lib.byteCells t.data.toList
theorem tc_append (a b : ByteArray) : tc (a ++ b) = tc a ++ Lib.strCells b := by
  unfold tc
  rw [ByteArray.data_append, Array.toList_append]
  simp [Lib.byteCells, Lib.strCells]
theorem tc_length (a : ByteArray) : (tc a).length = a.size := by unfold tc; rw [Lib.byteCells_length, Array.length_toList]; rfl
theorem repeatL_rep (c : UInt8) : ∀ n, Lib.repeatL [c] n = List.replicate n c
  | 0 => rfl
  | n + 1 => by
    show [c] ++ Lib.repeatL [c] n = _
    rw [repeatL_rep c n, List.replicate_succ]
    rfl
theorem repeat_any (b : Int) (n : Nat) (w : World) (hn : n ≤ 100000) :
    Calls Tryd.prog 43 #[.string ⟨#[UInt8.ofNat b.toNat]⟩, .int .i64 n] w fun e w' => e = .returned (.string (repB n b)) ∧ Below w.heap.size w w' := by
  have h := Tryd.strings_Repeat ⟨#[UInt8.ofNat b.toNat]⟩ n w (by omega) (by show 1 * n ≤ _; omega)
  rw [show (⟨#[UInt8.ofNat b.toNat]⟩ : ByteArray).data.toList = [UInt8.ofNat b.toNat] from rfl, repeatL_rep] at h
  exact h
theorem dress_empty : dress ⟨#[]⟩ = ⟨#[]⟩ := by decide +kernel
theorem piece_text {c : Int} {t : ByteArray} (h : c = 0) : pieceB (0, c, t) = dress t := by
  subst h
  show repB 0 0 ++ dress t = dress t
  rw [show repB 0 0 = ByteArray.empty from rfl, ByteArray.empty_append]
theorem piece_letter {b : Int} {n : Nat} {t : ByteArray} (h : t = ⟨#[]⟩) : pieceB (b, (n : Int), t) = repB n b := by
  subst h
  show repB n b ++ dress ⟨#[]⟩ = repB n b
  rw [dress_empty]
  exact ByteArray.append_empty

set_option maxRecDepth 100000 in
set_option maxHeartbeats 4000000 in
theorem dprint_any (v : Value) (l : List PF) (w : World) (hv : PFAt w v l) (hsz : PFsz l) (hG : Gl w) :
    Calls Tryd.prog 15 #[v] w fun e w' => e = .returned (.tuple #[.string (dpPrint l).1, .int .i64 (dpPrint l).2]) ∧ Below w.heap.size w w' := by
  have hmay := may_any v l w hv hsz.ok
  cases hm : mayB l with
  | false =>
    have hr : dpPrint l = (⟨#[]⟩, 2) := by unfold dpPrint; rw [hm]; rfl
    rw [hm] at hmay
    rw [hr]
    clear hr hm
    obtain ⟨a, cap, rfl, _⟩ := id hv
    go_enter Tryd.func15, Tryd.ntmps15
    go_wp2_with fail
    refine hmay.mono ?_
    rintro e w1 ⟨rfl, hB1⟩
    go_wp2_with fail
    go_ret2
    exact ⟨rfl, hB1⟩
  | true =>
    have hin := hsz.fin hm
    have hlm := hin.1
    have HOK := Lib.hid hin
    have hr : dpPrint l = if 4096 < (printT l).size then (⟨#[]⟩, 3) else (printT l, 0) := by unfold dpPrint; rw [if_pos hm]
    have HR := Lib.hid hr
    rw [hm] at hmay
    clear hm hr hin
    obtain ⟨a, cap, rfl, hlen, hc⟩ := hv
    have HC := Lib.hid hc
    clear hc
    go_enter Tryd.func15, Tryd.ntmps15
    go_wp2_with fail
    refine hmay.mono ?_
    rintro e w1 ⟨rfl, hB1⟩
    have hG1 := hG.later hB1
    have hfb : IsBld w1.heap.size w1.heap.size (tc ⟨#[]⟩) (w1.alloc (.cells #[.pointer none, .slice none 0 0] 68)) := Lib.fresh_isBuilder _ _ w1
    have hGB := (GB.start hG1).alloc (.cells #[.pointer none, .slice none 0 0] 68)
    have HFB := Lib.hid hfb
    clear hfb hmay
    go_wp2_with fail
    go_loopg [12] l.length (fun g s12 wr => ∃ i : Nat, s12 = .int .i64 (i : Int) ∧ i + g = l.length ∧ IsBld w1.heap.size w1.heap.size (tc (printT (l.take i))) wr ∧ GB w1 wr)
    case atStart => exact ⟨0, rfl, by omega, HFB.out, hGB⟩
    case round =>
      obtain ⟨i, rfl, hg, hbd, hgb⟩ := hrel
      have hz := printT_size HOK.out i (by omega)
      have hzB := hgb.2.size
      by_cases hi : i < l.length
      · have hnx := printT_next l i hi
        have HNX := Lib.hid hnx
        obtain ⟨g, off, rfl, hgw, h0, h1, h2⟩ := HC.out i hi
        have hx := HOK.out.rows hi
        generalize l[i] = x at *
        obtain ⟨b, c, t⟩ := x
        simp only at h0 h1 h2 hx
        obtain ⟨hf, hx0, hx1, hx2⟩ := hx
        have hcn := fldB_count hf
        simp only at hcn
        obtain ⟨hc0, hc9, hcT, hcL⟩ := hcn
        obtain ⟨n, rfl⟩ : ∃ n : Nat, c = n := ⟨c.toNat, by omega⟩
        have hgw1 : g < w1.heap.size := by have := hB1.size; omega
        have d0 := (hgb.2.cell (p := ⟨g, _, none⟩) hgw1).trans ((hB1.cell (p := ⟨g, _, none⟩) hgw).trans h0)
        have d1 := (hgb.2.cell (p := ⟨g, _, none⟩) hgw1).trans ((hB1.cell (p := ⟨g, _, none⟩) hgw).trans h1)
        have d2 := (hgb.2.cell (p := ⟨g, _, none⟩) hgw1).trans ((hB1.cell (p := ⟨g, _, none⟩) hgw).trans h2)
        have hgr : g < wr.heap.size := by omega
        have hiI : (i : Int) < l.length := by omega
        have hbd1 := bld_later hbd ((Below.refl wr.heap.size wr).alloc (Nat.le_refl _) (.cells #[.int .u8 b, .int .i64 n, .string t] 43))
        have hgb1 := hgb.alloc (.cells #[.int .u8 b, .int .i64 n, .string t] 43)
        have HBD := Lib.hid hbd1
        have hws := fun T W hw hz => writeString_any w1.heap.size w1.heap.size (tc (printT (l.take i))) T W hw hz
        rw [tc_length] at hws
        clear hnx h0 h1 h2 hbd hbd1
        by_cases hb : b = 0
        · subst hb
          have hpc := piece_text (t := t) (hcT rfl)
          rw [hpc] at HNX
          have hdz := dress_size t
          have hdr := fun W h => dress_any t W (by omega) h
          clear hpc hcT hcL hf
          generalize dress t = D at *
          go_wp2_with fail
          refine (hdr _ hgb1.1).mono ?_
          rintro e w2 ⟨rfl, hB2⟩
          have hbd2 := bld_later HBD.out hB2
          have hgb2 := hgb1.on hB2
          go_wp2_with fail
          refine (hws D _ hbd2 (by omega) hgb2.2.size).mono ?_
          rintro e w3 ⟨rfl, hbd3, hB3⟩
          have hbd4 : IsBld w1.heap.size w1.heap.size (tc (printT (l.take (i + 1)))) w3 := by rw [HNX.out, tc_append]; exact .inr hbd3
          have hgb3 : GB w1 w3 := ⟨hG1.later (hgb2.2.trans hB3), hgb2.2.trans hB3⟩
          have HB4 := Lib.hid hbd4
          clear hbd2 hbd3 hbd4
          go_wp2_with fail
          go_roundg (gk - 1)
          case rel => exact ⟨i + 1, by push_cast; rfl, by omega, HB4.out, hgb3⟩
          case measure => omega
        · have hL := hcL hb
          have hpc := piece_letter (b := b) (n := n) hL.1
          rw [hpc] at HNX
          have hasc := rank_ascii hL.2.1
          have henc := encode_ascii (b := b) (by omega) (by omega)
          have hrp := fun W => repeat_any b n W (by omega)
          have hrz := repB_size n b
          have hrz2 : (repB n b).size ≤ 9 := by omega
          have hbe : (b == 0) = false := by simpa using hb
          clear hpc hcT hcL hf hL hb hrz
          generalize repB n b = D at *
          go_wp2_with fail
          refine (hrp _).mono ?_
          rintro e w2 ⟨rfl, hB2⟩
          have hbd2 := bld_later HBD.out hB2
          have hgb2 := hgb1.on hB2
          go_wp2_with fail
          refine (hws D _ hbd2 (by omega) hgb2.2.size).mono ?_
          rintro e w3 ⟨rfl, hbd3, hB3⟩
          have hbd4 : IsBld w1.heap.size w1.heap.size (tc (printT (l.take (i + 1)))) w3 := by rw [HNX.out, tc_append]; exact .inr hbd3
          have hgb3 : GB w1 w3 := ⟨hG1.later (hgb2.2.trans hB3), hgb2.2.trans hB3⟩
          have HB4 := Lib.hid hbd4
          clear hbd2 hbd3 hbd4
          go_wp2_with fail
          go_roundg (gk - 1)
          case rel => exact ⟨i + 1, by push_cast; rfl, by omega, HB4.out, hgb3⟩
          case measure => omega
      · have hie : i = l.length := by omega
        have hP : printT (l.take i) = printT l := by rw [hie, List.take_length]
        rw [hP] at hbd hz
        clear hP hi
        generalize printT l = P at *
        have hbl := Tryd.Builder_Len w1.heap.size w1.heap.size (tc P) wr hbd
        rw [tc_length] at hbl
        have hbs := Tryd.Builder_String_any w1.heap.size w1.heap.size P.data.toList wr hbd hzB
        rw [show (⟨P.data.toList.toArray⟩ : ByteArray) = P from rfl] at hbs
        have HBS := Lib.hid hbs
        have hBf := hB1.trans (hgb.2.mono hB1.size)
        clear hbd hbs
        by_cases h4 : 4096 < P.size
        · rw [if_pos h4] at HR
          have h4I : (4096 : Int) < P.size := by omega
          clear h4
          go_wp2_with fail
          refine hbl.mono ?_
          rintro e w2 ⟨rfl, rfl⟩
          go_wp2_with fail
          go_ret2
          exact ⟨by rw [HR.out]; rfl, hBf⟩
        · rw [if_neg h4] at HR
          have h4I : ¬ (4096 : Int) < P.size := by omega
          clear h4
          go_wp2_with fail
          refine hbl.mono ?_
          rintro e w2 ⟨rfl, rfl⟩
          go_wp2_with fail
          refine HBS.out.mono ?_
          rintro e w3 ⟨rfl, hB3⟩
          go_wp2_with fail
          go_ret2
          exact ⟨by rw [HR.out]; rfl, hB1.trans ((hgb.2.trans hB3).mono hB1.size)⟩
end Go.Proofs.YtbnhfjhhbgmhfaaDoor
