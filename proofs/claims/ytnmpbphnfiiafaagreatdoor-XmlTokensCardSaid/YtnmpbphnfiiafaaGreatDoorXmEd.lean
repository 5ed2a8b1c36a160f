/-
  The reader of files: what the open elements hold.
-/
import Derived.Test.YtnmpbphnfiiafaaGreatDoorXmEc
namespace Go.Proofs.YtnmpbphnfiiafaaGreatDoor
open Go.RowKit Go.PlainAid

section
variable {lo rb : Nat} {s : ByteArray} {at_ : Nat} {ov pv bp tv : Value} {fr : Int} {out : List Tk} {pile : List ByteArray} {text l : List UInt8} {w W w1 : World}
/-- A rune into the reader's own text. -/
theorem RdS.wrote (h : RdS lo rb s at_ ov pv bp tv fr out pile text w) (hB : Below w.heap.size w W) (hW : Wrote lo rb 4 72 #[.string s, .int .i64 (at_ : Int), ov, pv, bp, tv, .int .i64 fr] tv text l W w1) :
    ∃ v', RdS lo rb s at_ ov pv (.pointer (some ⟨rb, 4, none⟩)) v' fr out pile (text ++ l) w1 ∧ KeepX lo rb w w1 := by
  obtain ⟨v', h1, h2, h3⟩ := hW
  have hrb := h.rb
  have hO := h.on hB
  have hown := hO.out.own
  refine ⟨v', ⟨⟨h1.blk, .inr rfl, rfl, h1.row, h1.ne, h1.lies, h1.lo⟩, hO.out.later (fun g hg => ?_) (fun g c hg hc => h2.block g (lt_some hc) (by omega) (fun e => ?_)), hO.pile.later (fun g hg => h2.block g (hO.pile.lt g hg) (by have := hO.pile.own g hg; omega) (fun e => ?_)), hrb⟩,
    (KeepX.of hB h.bld.lo).trans ⟨h2.os, h2.tape, h2.output, h2.size, fun k hk hx => h2.block k (Nat.lt_of_lt_of_le hk hO.bld.lo) hx (fun e => by have := (hO.bld.own_lt e).1; omega)⟩⟩
  · obtain ⟨hl, c, hc⟩ := hown g hg
    exact h2.block g (lt_some hc) (by omega) (fun e => by
      obtain ⟨c', hc'⟩ := hO.bld.kind e
      exact kinds_ne hc hc' (by decide))
  · obtain ⟨c', hc'⟩ := hO.bld.kind e
    exact kinds_ne hc hc' (by decide)
  · obtain ⟨c, hc⟩ := hO.pile.kind g hg
    obtain ⟨c', hc'⟩ := hO.bld.kind e
    exact kinds_ne hc hc' (by decide)
/-- What rune comes to at the reader's own text. -/
def PieceEnd (lo rb : Nat) (s : ByteArray) (ov pv : Value) (fr : Int) (out : List Tk) (pile : List ByteArray) (text : List UInt8) (w : World) (x : Xr ByteArray) (en : Ending) (w' : World) : Prop :=
  match x with
  | .bad e a => en = Died e a ∧ KeepX lo rb w w'
  | .ok q b => en = .returned (.tuple #[]) ∧ KeepX lo rb w w' ∧ ∃ bp tv, RdS lo rb s q ov pv bp tv fr out pile (text ++ b.data.toList) w'
theorem piece_rd (h : RdS lo rb s at_ ov pv bp tv fr out pile text w) (hp : at_ ≤ s.size) (hz : s.size ≤ 4000000000) (hG : Gx w) (hacc : text.length ≤ 4 * at_) :
    Calls Tryz.prog 52 #[.pointer (some ⟨rb, 0, none⟩), .pointer (some ⟨rb, 4, none⟩)] w fun en w' => PieceEnd lo rb s ov pv fr out pile text w (pieceX s at_) en w' := by
  have hWS : ∀ (b : ByteArray) W, b.size ≤ s.size → Below w.heap.size w W → Calls Tryz.prog 58 #[.pointer (some ⟨rb, 4, none⟩), .string b] W fun e w' => (∃ a, e = .returned a) ∧ (Below w.heap.size w W ∧ Wrote lo rb 4 72 #[.string s, .int .i64 (at_ : Int), ov, pv, bp, tv, .int .i64 fr] tv text b.data.toList W w') := fun b W hbz hB =>
    (bWriteString (h.on hB).bld b (by omega) (by decide)).mono fun e w' ⟨h1, h2⟩ => ⟨⟨_, h1⟩, hB, h2⟩
  have hWR : ∀ (r : Int) W, okRune r → Below w.heap.size w W → Calls Tryz.prog 77 #[.pointer (some ⟨rb, 4, none⟩), .int .i32 r] W fun e w' => (∃ a, e = .returned a) ∧ (Below w.heap.size w W ∧ Wrote lo rb 4 72 #[.string s, .int .i64 (at_ : Int), ov, pv, bp, tv, .int .i64 fr] tv text (Lib.encodeRune r) W w') := fun r W hr hB =>
    (bWriteRune (h.on hB).bld r hr (by omega) (by decide)).mono fun e w' ⟨h1, h2⟩ => ⟨h1, hB, h2⟩
  have hRd : ∀ l W W', (Below w.heap.size w W ∧ Wrote lo rb 4 72 #[.string s, .int .i64 (at_ : Int), ov, pv, bp, tv, .int .i64 fr] tv text l W W') → ∃ cs', Rdr rb s at_ cs' W' := fun l W W' hP => by
    obtain ⟨v', hR, _⟩ := h.wrote hP.1 hP.2
    exact ⟨_, hR.rdr⟩
  refine (rune_gen (.pointer (some ⟨rb, 4, none⟩)) (fun l W W' => Below w.heap.size w W ∧ Wrote lo rb 4 72 #[.string s, .int .i64 (at_ : Int), ov, pv, bp, tv, .int .i64 fr] tv text l W W') h.rdr hp hz hG hWS hWR hRd).mono ?_
  intro e w' hE
  unfold RuneEnd at hE
  unfold PieceEnd
  cases hpx : pieceX s at_ with
  | bad ee aa =>
    rw [hpx] at hE
    exact ⟨hE.1, KeepX.of hE.2 h.bld.lo⟩
  | ok q b =>
    rw [hpx] at hE
    obtain ⟨he, W, w1, hBW, ⟨hBW', hWr⟩, rfl⟩ := hE
    obtain ⟨v', hR, hK⟩ := h.wrote hBW hWr
    exact ⟨he, hK.setCell _ _, _, _, hR.set1 q⟩
end
section
variable {s : ByteArray} {f p : Nat} {out : List Tk} {pile : List ByteArray} {text : ByteArray} {fr : Option Nat}
theorem holdF_done : holdF s (f + 1) p out [] text fr = .ok p out := by
  conv => lhs; unfold holdF
  rw [if_pos rfl]
theorem holdF_cmt (h : pile ≠ []) (hc : isCmt s p = true) : holdF s (f + 1) p out pile text fr = match cmtX s p with
      | .bad e a => .bad e a
      | .ok q _ => holdF s f q out pile text fr := by
  conv => lhs; unfold holdF
  rw [if_neg h, if_pos hc]
  cases cmtX s p <;> rfl
theorem holdF_end (h : pile ≠ []) (hc : isCmt s p = false) (h2 : wdAt s p [60, 47] = true) : holdF s (f + 1) p out pile text fr = match tellX out text fr with
      | .bad e a => .bad e a
      | .ok _ out' => match endX s p (pile.getLastD ⟨#[]⟩) with
        | .bad e a => .bad e a
        | .ok q nm => holdF s f q (out' ++ [⟨2, nm, [], ⟨#[]⟩, p⟩]) pile.dropLast ⟨#[]⟩ none := by
  conv => lhs; unfold holdF
  rw [if_neg h, if_neg (by rw [hc]; simp), if_pos h2]
  cases tellX out text fr with
  | bad e a => rfl
  | ok _ out' =>
    simp only
    cases endX s p (pile.getLastD ⟨#[]⟩) <;> rfl
theorem holdF_beg (h : pile ≠ []) (hc : isCmt s p = false) (h2 : wdAt s p [60, 47] = false) (h3 : bt s p = 60) : holdF s (f + 1) p out pile text fr = match tellX out text fr with
      | .bad e a => .bad e a
      | .ok _ out' => match begX s p pile.length with
        | .bad e a => .bad e a
        | .ok q x => holdF s f q (out' ++ begT p x.1 x.2.1 x.2.2) (if x.2.1 = true then pile else pile ++ [x.1]) ⟨#[]⟩ none := by
  conv => lhs; unfold holdF
  rw [if_neg h, if_neg (by rw [hc]; simp), if_neg (by rw [h2]; simp), if_pos h3]
  cases tellX out text fr with
  | bad e a => rfl
  | ok _ out' =>
    simp only
    cases begX s p pile.length with
    | bad e a => rfl
    | ok q x =>
      obtain ⟨nm, sh, l⟩ := x
      cases sh <;> rfl
theorem holdF_bad (h : pile ≠ []) (hc : isCmt s p = false) (h2 : wdAt s p [60, 47] = false) (h3 : bt s p ≠ 60) (h4 : s.size ≤ p ∨ wdAt s p [93, 93, 62] = true) : holdF s (f + 1) p out pile text fr = .bad 140 p := by
  conv => lhs; unfold holdF
  rw [if_neg h, if_neg (by rw [hc]; simp), if_neg (by rw [h2]; simp), if_neg h3, if_pos h4]
theorem holdF_piece (h : pile ≠ []) (hc : isCmt s p = false) (h2 : wdAt s p [60, 47] = false) (h3 : bt s p ≠ 60) (h4 : ¬ (s.size ≤ p ∨ wdAt s p [93, 93, 62] = true)) : holdF s (f + 1) p out pile text fr = match pieceX s p with
      | .bad e a => .bad e a
      | .ok q b => holdF s f q out pile (text ++ b) (some (fr.getD p)) := by
  conv => lhs; unfold holdF
  rw [if_neg h, if_neg (by rw [hc]; simp), if_neg (by rw [h2]; simp), if_neg h3, if_neg h4]
  cases pieceX s p <;> rfl
theorem tellX_ok {u : Nat} {o2 : List Tk} (h : tellX out text fr = .ok u o2) : o2.length ≤ out.length + 1 := by
  unfold tellX at h
  cases fr with
  | none => injection h with _ h; subst h; omega
  | some a =>
    simp only at h
    split at h
    · cases h
    · injection h with _ h
      subst h
      simp
theorem begT_len (p : Nat) (nm : ByteArray) (sh : Bool) (l : List At2) : (begT p nm sh l).length ≤ 2 := by cases sh <;> simp [begT]
theorem begX_pile {n r : Nat} {x : ByteArray × Bool × List At2} (h : begX s p n = .ok r x) : n ≠ 64 := by
  unfold begX at h
  cases hn : nameX s (p + 1) with
  | bad e a => rw [hn] at h; cases h
  | ok q nm =>
    rw [hn] at h
    simp only at h
    split at h
    · cases h
    · assumption
end
/-- What holds comes to. -/
def HoldEnd (lo rb : Nat) (s : ByteArray) (w : World) (x : Xr (List Tk)) (en : Ending) (w' : World) : Prop :=
  match x with
  | .bad e a => en = Died e a ∧ KeepX lo rb w w'
  | .ok q out => en = .returned (.tuple #[]) ∧ q ≤ s.size ∧ KeepX lo rb w w' ∧ ∃ ov pv bp tv fr pile text, RdS lo rb s q ov pv bp tv fr out pile text w'

set_option maxRecDepth 100000 in
set_option maxHeartbeats 16000000 in
theorem holds_any {lo rb : Nat} {s : ByteArray} {at_ : Nat} {ov pv bp tv : Value} {from_ : Option Nat} {out : List Tk} {pile : List ByteArray} {text : List UInt8} {w : World} (h : RdS lo rb s at_ ov pv bp tv (frI from_) out pile text w) (ha : at_ ≤ s.size) (hz : s.size ≤ 262144) (hG : ∀ W, KeepX lo rb w W → Gx W) (hpl : pile.length ≤ 64) (hol : out.length ≤ 2 * at_) (htl : text.length ≤ 4 * at_) (hf0 : from_ = none → text = []) :
    Calls Tryz.prog 45 #[.pointer (some ⟨rb, 0, none⟩)] w fun en w' => HoldEnd lo rb s w (holdF s (s.size + 1 - at_) at_ out pile ⟨text.toArray⟩ from_) en w' := by
  obtain ⟨R, hR⟩ : ∃ R, holdF s (s.size + 1 - at_) at_ out pile ⟨text.toArray⟩ from_ = R := ⟨_, rfl⟩
  rw [hR]
  have HH := Lib.hid h; have HG := Lib.hid hG; have HR := Lib.hid hR
  clear h hG hR
  go_enter Tryz.func45, Tryz.ntmps45
  go_wp2_with fail
  go_loopg [] (s.size + 1 - at_) (fun f wx => ∃ (p g : Nat) (out : List Tk) (pile : List ByteArray) (text : List UInt8) (from_ : Option Nat) (ov pv bp tv : Value), f + p = s.size + 1 ∧ p ≤ s.size ∧ s.size < p + g ∧ pile.length ≤ 64 ∧ out.length ≤ 2 * p ∧ text.length ≤ 4 * p ∧ (from_ = none → text = []) ∧ R = holdF s g p out pile ⟨text.toArray⟩ from_ ∧ RdS lo rb s p ov pv bp tv (frI from_) out pile text wx ∧ KeepX lo rb w wx)
  case atStart => exact ⟨at_, s.size + 1 - at_, out, pile, text, from_, ov, pv, bp, tv, by omega, ha, by omega, hpl, hol, htl, hf0, HR.out.symm, HH.out, KeepX.refl _ _ _⟩
  case round =>
    clear hpl hol htl hf0 HH HR ha
    clear out pile text from_ ov pv bp tv
    obtain ⟨p, g, out, pile, text, from_, ov, pv, bp, tv, hg, hp, hgf, hpl, hol, htl, hf0, hres, hRd, hKp⟩ := hrel
    obtain ⟨g, rfl⟩ : ∃ k, g = k + 1 := ⟨g - 1, by omega⟩
    obtain ⟨pa, pn, pc, hpv⟩ := hRd.pile.form'
    have hpn : pn = pile.length := by
      obtain ⟨_, _, e⟩ := hRd.pile.form
      rw [hpv] at e
      injection e
    subst hpv
    have c3 : wr.cell? ⟨rb, 3, none⟩ = some (.slice pa pn pc) := hRd.blk.cell 3
    have HM := Lib.hid (And.intro hg hgf); have HRD := Lib.hid hRd; have HK := Lib.hid hKp; have HRES := Lib.hid hres; have HPN := Lib.hid hpn; have HF0 := Lib.hid hf0; have HB := Lib.hid (And.intro hpl (And.intro hol htl))
    clear hg hgf hRd hKp hres hf0 hpl hol htl
    by_cases hpe : pile = []
    · subst hpe
      have hI : ¬ (0 : Int) < (pn : Int) := by rw [hpn]; simp
      have HX := Lib.hid (HRES.out.trans holdF_done)
      clear hpn
      go_wp2_with fail
      go_end0
      rw [HX.out]
      exact ⟨rfl, hp, HK.out, _, _, _, _, _, _, _, HRD.out⟩
    · have hI : (0 : Int) < (pn : Int) := by
        have : pile.length ≠ 0 := fun e => hpe (List.length_eq_zero_iff.1 e)
        omega
      have HPE := Lib.hid hpe
      have c0 : wr.cell? ⟨rb, 0, none⟩ = some (.string s) := HRD.out.rdr.cell0
      have c1 : wr.cell? ⟨rb, 1, none⟩ = some (.int .i64 (p : Int)) := HRD.out.rdr.cell1
      have hp0 : (0 : Int) ≤ p := by omega
      have hps : (p : Int) ≤ s.size := by omega
      have hp2 : ∀ W, Calls Tryz.prog 40 #[.string (s.extract p s.size), .string ⟨#[60, 47]⟩] W fun e w' => e = .returned (.bool (wdAt s p [60, 47])) ∧ W = w' := fun W => prefix_at s p [60, 47] (by decide) W
      have hp1 : ∀ W, Calls Tryz.prog 40 #[.string (s.extract p s.size), .string ⟨#[60]⟩] W fun e w' => e = .returned (.bool (wdAt s p [60])) ∧ W = w' := fun W => prefix_at s p [60] (by decide) W
      have hp3 : ∀ W, Calls Tryz.prog 40 #[.string (s.extract p s.size), .string ⟨#[93, 93, 62]⟩] W fun e w' => e = .returned (.bool (wdAt s p [93, 93, 62])) ∧ W = w' := fun W => prefix_at s p [93, 93, 62] (by decide) W
      have hw1 : wdAt s p [60] = (bt s p == 60) := by simp [wdAt]
      rw [hw1] at hp1
      clear hpe hw1
      go_upto_region 1 with fail
      go_quiet (fail)
      have hR1 := HRD.out.on (bdN0 (Below.refl _ _) nq)
      have hK1 : KeepX lo rb w (wr.drewN nq) := HK.out.trans (KeepX.of (bdN0 (Below.refl _ _) nq) HRD.out.bld.lo)
      clear c0 c1 c3
      generalize wr.drewN nq = W1 at *
      have hco := comments_any hR1.rdr hp (by omega) (fun W hW => (HG.out W (hK1.trans (hW.mono hR1.bld.lo))).1)
      have HR1 := Lib.hid hR1; have HK1 := Lib.hid hK1
      clear hR1 hK1 HRD HK
      go_wp2_with fail
      refine hco.mono ?_
      clear hco
      rintro e w2 (⟨hc, rfl, hM2⟩ | ⟨hc, hS⟩)
      · have hR2 := HR1.out.moved hM2
        have hK2 := HK1.out.trans (HR1.out.keep hM2)
        have HC := Lib.hid hc; have HR2 := Lib.hid hR2; have HK2 := Lib.hid hK2
        clear hc hM2 hR2 hK2 HR1 HK1
        by_cases h2 : wdAt s p [60, 47] = true
        · have hin2 := wdAt_in h2 (by decide) hp
          simp only [List.length_cons, List.length_nil] at hin2
          have HX := Lib.hid (HRES.out.trans (holdF_end HPE.out HC.out h2))
          rw [h2] at hp2
          have htell := tell_any HR2.out (by have := HB.out.2.1; omega) HF0.out
          have HTELL := Lib.hid htell
          clear h2 htell hp1 hp3
          go_wp2_with fail
          refine (hp2 _).mono ?_
          rintro e w' ⟨rfl, rfl⟩
          go_wp2_with fail
          refine HTELL.out.mono ?_
          clear HTELL
          intro e w3 hE
          cases ht : tellX out ⟨text.toArray⟩ from_ with
          | bad ee aa =>
            rw [ht] at hE
            obtain ⟨rfl, hK3⟩ := hE
            have hx := HX.out
            rw [ht] at hx
            have HXX := Lib.hid (show R = .bad ee aa from hx)
            have HK3 := Lib.hid (HK2.out.trans hK3)
            clear hx hK3 ht
            go_wp2_with fail
            refine ⟨rfl, ?_⟩
            rw [HXX.out]
            exact ⟨rfl, HK3.out⟩
          | ok u o2 =>
            rw [ht] at hE
            obtain ⟨rfl, hK3, ov3, bp3, tv3, hR3⟩ := hE
            have hx := HX.out
            rw [ht] at hx
            have hol2 := tellX_ok ht
            have hK3 := HK2.out.trans hK3
            have hend := end_any hR3 hin2 (by omega) (by have := HB.out.2.1; omega) HB.out.1 HPE.out
            have HXX := Lib.hid hx; have HK3 := Lib.hid hK3; have HR3 := Lib.hid hR3; have HEND := Lib.hid hend; have HOL := Lib.hid hol2
            clear hx hK3 hR3 hend ht hol2
            go_wp2_with fail
            refine HEND.out.mono ?_
            clear HEND
            intro e w4 hE
            cases hen : endX s p (pile.getLastD ⟨#[]⟩) with
            | bad ee aa =>
              rw [hen] at hE
              obtain ⟨rfl, hK4⟩ := hE
              have hx := HXX.out
              rw [hen] at hx
              have HX4 := Lib.hid (show R = .bad ee aa from hx)
              have HK4 := Lib.hid (HK3.out.trans hK4)
              clear hx hK4 hen
              go_wp2_with fail
              refine ⟨rfl, ?_⟩
              rw [HX4.out]
              exact ⟨rfl, HK4.out⟩
            | ok q nm =>
              rw [hen] at hE
              obtain ⟨rfl, hK4, ov4, pv4, hR4⟩ := hE
              obtain ⟨hq1, hq2⟩ := endX_in hen hin2
              have hx := HXX.out
              rw [hen] at hx
              have HX4 := Lib.hid (show R = holdF s g q (o2 ++ [⟨2, nm, [], ⟨#[]⟩, p⟩]) pile.dropLast ⟨#[]⟩ none from hx)
              have HK4 := Lib.hid (HK3.out.trans hK4); have HR4 := Lib.hid hR4; have HQ1 := Lib.hid hq1
              clear hx hK4 hen hR4 hq1
              go_wp2_with fail
              go_roundg (s.size + 1 - q)
              case rel => exact ⟨q, g, _, pile.dropLast, [], none, ov4, pv4, bp3, tv3, by omega, hq2, by have := HM.out; have := HQ1.out; omega, by rw [List.length_dropLast]; have := HB.out.1; omega, by rw [List.length_append, List.length_singleton]; have := HOL.out; have := HB.out.2.1; have := HQ1.out; omega, by simp, fun _ => rfl, HX4.out, HR4.out, HK4.out⟩
              case measure => have := HM.out; have := HQ1.out; omega
        · have h2f : wdAt s p [60, 47] = false := by simpa using h2
          rw [h2f] at hp2
          have H2 := Lib.hid h2f
          clear h2 h2f
          by_cases h60 : bt s p = 60
          · have hlt : p < s.size := by
              by_cases hp : p < s.size
              · exact hp
              · rw [bt_end s (by omega)] at h60; omega
            have HX := Lib.hid (HRES.out.trans (holdF_beg HPE.out HC.out H2.out h60))
            rw [h60] at hp1
            have htell := tell_any HR2.out (by have := HB.out.2.1; omega) HF0.out
            have HTELL := Lib.hid htell; have HLT := Lib.hid hlt
            clear htell hp3 h60 hlt
            go_wp2_with fail
            refine (hp2 _).mono ?_
            rintro e w' ⟨rfl, rfl⟩
            go_wp2_with fail
            refine (hp1 _).mono ?_
            rintro e w' ⟨rfl, rfl⟩
            go_wp2_with fail
            refine HTELL.out.mono ?_
            clear HTELL
            intro e w3 hE
            cases ht : tellX out ⟨text.toArray⟩ from_ with
            | bad ee aa =>
              rw [ht] at hE
              obtain ⟨rfl, hK3⟩ := hE
              have hx := HX.out
              rw [ht] at hx
              have HXX := Lib.hid (show R = .bad ee aa from hx)
              have HK3 := Lib.hid (HK2.out.trans hK3)
              clear hx hK3 ht
              go_wp2_with fail
              refine ⟨rfl, ?_⟩
              rw [HXX.out]
              exact ⟨rfl, HK3.out⟩
            | ok u o2 =>
              rw [ht] at hE
              obtain ⟨rfl, hK3, ov3, bp3, tv3, hR3⟩ := hE
              have hx := HX.out
              rw [ht] at hx
              have hol2 := tellX_ok ht
              have hK3 := HK2.out.trans hK3
              have hbeg := begin_any hR3 HLT.out (by omega) (fun W hW => HG.out W (hK3.trans hW)) (by have := HB.out.2.1; omega) HB.out.1
              have HXX := Lib.hid hx; have HK3 := Lib.hid hK3; have HR3 := Lib.hid hR3; have HBEG := Lib.hid hbeg; have HOL := Lib.hid hol2
              clear hx hK3 hR3 hbeg ht hol2
              go_wp2_with fail
              refine HBEG.out.mono ?_
              clear HBEG
              intro e w4 hE
              cases hen : begX s p pile.length with
              | bad ee aa =>
                rw [hen] at hE
                obtain ⟨rfl, hK4⟩ := hE
                have hx := HXX.out
                rw [hen] at hx
                have HX4 := Lib.hid (show R = .bad ee aa from hx)
                have HK4 := Lib.hid (HK3.out.trans hK4)
                clear hx hK4 hen
                go_wp2_with fail
                refine ⟨rfl, ?_⟩
                rw [HX4.out]
                exact ⟨rfl, HK4.out⟩
              | ok q x =>
                obtain ⟨nm, sh, l⟩ := x
                rw [hen] at hE
                obtain ⟨rfl, hK4, ov4, pv4, hR4⟩ := hE
                obtain ⟨hq1, hq2⟩ := begX_in hen HLT.out
                have hp64 := begX_pile hen
                have hx := HXX.out
                rw [hen] at hx
                have HX4 := Lib.hid (show R = holdF s g q (o2 ++ begT p nm sh l) (if sh = true then pile else pile ++ [nm]) ⟨#[]⟩ none from hx)
                have HK4 := Lib.hid (HK3.out.trans hK4); have HR4 := Lib.hid hR4; have HQ1 := Lib.hid hq1; have HP64 := Lib.hid hp64
                clear hx hK4 hen hR4 hq1 hp64
                go_wp2_with fail
                go_roundg (s.size + 1 - q)
                case rel => exact ⟨q, g, _, _, [], none, ov4, pv4, bp3, tv3, by omega, hq2, by have := HM.out; have := HQ1.out; omega, by have := HB.out.1; have := HP64.out; cases sh <;> simp <;> omega, by rw [List.length_append]; have := begT_len p nm sh l; have := HOL.out; have := HB.out.2.1; have := HQ1.out; omega, by simp, fun _ => rfl, HX4.out, HR4.out, HK4.out⟩
                case measure => have := HM.out; have := HQ1.out; omega
          · have h60n : (bt s p == 60) = false := by simpa using h60
            rw [h60n] at hp1
            have H60 := Lib.hid h60
            have hrz : (s.extract p s.size).size = s.size - p := rest_size s p hp
            clear h60 h60n
            by_cases hend : s.size ≤ p
            · have HX := Lib.hid (HRES.out.trans (holdF_bad HPE.out HC.out H2.out H60.out (.inl hend)))
              have hnil := bytes_nil (X := s.extract p s.size) (by omega)
              have hwn := want_no HR2.out.rdr
              clear hp3 hend hrz
              go_wp2_with fail
              refine (hp2 _).mono ?_
              rintro e w' ⟨rfl, rfl⟩
              go_wp2_with fail
              refine (hp1 _).mono ?_
              rintro e w' ⟨rfl, rfl⟩
              go_wp2_with fail
              refine hwn.mono ?_
              rintro e w' ⟨rfl, rfl⟩
              go_wp2_with fail
              refine ⟨rfl, ?_⟩
              rw [HX.out]
              exact ⟨rfl, HK2.out⟩
            · have hne := bytes_ne (X := s.extract p s.size) (by omega)
              by_cases h93 : wdAt s p [93, 93, 62] = true
              · have HX := Lib.hid (HRES.out.trans (holdF_bad HPE.out HC.out H2.out H60.out (.inr h93)))
                rw [h93] at hp3
                have hwn := want_no HR2.out.rdr
                clear h93 hend hrz
                go_wp2_with fail
                refine (hp2 _).mono ?_
                rintro e w' ⟨rfl, rfl⟩
                go_wp2_with fail
                refine (hp1 _).mono ?_
                rintro e w' ⟨rfl, rfl⟩
                go_wp2_with fail
                refine (hp3 _).mono ?_
                rintro e w' ⟨rfl, rfl⟩
                go_wp2_with fail
                refine hwn.mono ?_
                rintro e w' ⟨rfl, rfl⟩
                go_wp2_with fail
                refine ⟨rfl, ?_⟩
                rw [HX.out]
                exact ⟨rfl, HK2.out⟩
              · have h93n : wdAt s p [93, 93, 62] = false := by simpa using h93
                have HX := Lib.hid (HRES.out.trans (holdF_piece HPE.out HC.out H2.out H60.out (by
                  rintro (h | h)
                  · exact hend h
                  · exact h93 h)))
                rw [h93n] at hp3
                have hwy := fun W => want_yes (.pointer (some ⟨rb, 0, none⟩)) W
                have c6 : w2.cell? ⟨rb, 6, none⟩ = some (.int .i64 (frI from_)) := HR2.out.blk.cell 6
                clear h93 h93n hend hrz
                cases from_ with
                | none =>
                  obtain rfl := HF0.out rfl
                  have hfr : frI none < 0 := by decide
                  have hfr1 : frI none = -1 := rfl
                  rw [hfr1] at c6
                  have c1 : w2.cell? ⟨rb, 1, none⟩ = some (.int .i64 (p : Int)) := HR2.out.rdr.cell1
                  have d6 := HR2.out.blk.free 6
                  have hR3 := HR2.out.set6 (p : Int)
                  have hK3 := HK2.out.setCell 6 (.int .i64 (p : Int))
                  have hru := piece_rd hR3 hp (by omega) (HG.out _ hK3) (by simp)
                  have HRU := Lib.hid hru; have HR3 := Lib.hid hR3; have HK3 := Lib.hid hK3
                  clear hru hR3 hK3 hfr hfr1
                  go_wp2_with fail
                  refine (hp2 _).mono ?_
                  rintro e w' ⟨rfl, rfl⟩
                  go_wp2_with fail
                  refine (hp1 _).mono ?_
                  rintro e w' ⟨rfl, rfl⟩
                  go_wp2_with fail
                  refine (hp3 _).mono ?_
                  rintro e w' ⟨rfl, rfl⟩
                  go_wp2_with fail
                  refine (hwy _).mono ?_
                  rintro e w' ⟨rfl, rfl⟩
                  go_wp2_with fail
                  refine HRU.out.mono ?_
                  clear HRU
                  intro e wz hE
                  unfold PieceEnd at hE
                  cases hpx : pieceX s p with
                  | bad ee aa =>
                    rw [hpx] at hE
                    obtain ⟨rfl, hK4⟩ := hE
                    have hx := HX.out
                    rw [hpx] at hx
                    have HXX := Lib.hid (show R = .bad ee aa from hx)
                    have HK4 := Lib.hid (HK3.out.trans hK4)
                    clear hx hK4 hpx
                    go_wp2_with fail
                    refine ⟨rfl, ?_⟩
                    rw [HXX.out]
                    exact ⟨rfl, HK4.out⟩
                  | ok q b =>
                    rw [hpx] at hE
                    obtain ⟨rfl, hK4, bp4, tv4, hR4⟩ := hE
                    obtain ⟨hq1, hq2, hq3⟩ := piece_in hpx hp
                    have hx := HX.out
                    rw [hpx] at hx
                    have hx2 : R = holdF s g q out pile (⟨([] : List UInt8).toArray⟩ ++ b) (some p) := hx
                    rw [toA_append] at hx2
                    have hlen : ([] ++ b.data.toList).length ≤ 4 * q := by
                      rw [List.length_append]
                      have := HB.out.2.2
                      have e : b.data.toList.length = b.size := rfl
                      simp only [List.length_nil] at *
                      omega
                    have HXX := Lib.hid hx2; have HK4 := Lib.hid (HK3.out.trans hK4); have HR4 := Lib.hid hR4; have HQ := Lib.hid (And.intro hq1 hlen)
                    clear hx hx2 hK4 hR4 hpx hq1 hq3 hlen
                    go_wp2_with fail
                    go_roundg (s.size + 1 - q)
                    case rel => exact ⟨q, g, out, pile, [] ++ b.data.toList, some p, _, _, bp4, tv4, by omega, hq2, by have := HM.out; have := HQ.out.1; omega, HB.out.1, by have := HB.out; have := HQ.out.1; omega, HQ.out.2, fun h => (by cases h), HXX.out, HR4.out, HK4.out⟩
                    case measure => have := HM.out; have := HQ.out.1; omega
                | some a0 =>
                  have hfr : ¬ (a0 : Int) < 0 := by omega
                  change w2.cell? ⟨rb, 6, none⟩ = some (.int .i64 (a0 : Int)) at c6
                  have hru := piece_rd HR2.out hp (by omega) (HG.out _ HK2.out) HB.out.2.2
                  have HRU := Lib.hid hru
                  clear hru
                  go_wp2_with fail
                  refine (hp2 _).mono ?_
                  rintro e w' ⟨rfl, rfl⟩
                  go_wp2_with fail
                  refine (hp1 _).mono ?_
                  rintro e w' ⟨rfl, rfl⟩
                  go_wp2_with fail
                  refine (hp3 _).mono ?_
                  rintro e w' ⟨rfl, rfl⟩
                  go_wp2_with fail
                  refine (hwy _).mono ?_
                  rintro e w' ⟨rfl, rfl⟩
                  go_wp2_with fail
                  refine HRU.out.mono ?_
                  clear HRU
                  intro e wz hE
                  unfold PieceEnd at hE
                  cases hpx : pieceX s p with
                  | bad ee aa =>
                    rw [hpx] at hE
                    obtain ⟨rfl, hK4⟩ := hE
                    have hx := HX.out
                    rw [hpx] at hx
                    have HXX := Lib.hid (show R = .bad ee aa from hx)
                    have HK4 := Lib.hid (HK2.out.trans hK4)
                    clear hx hK4 hpx
                    go_wp2_with fail
                    refine ⟨rfl, ?_⟩
                    rw [HXX.out]
                    exact ⟨rfl, HK4.out⟩
                  | ok q b =>
                    rw [hpx] at hE
                    obtain ⟨rfl, hK4, bp4, tv4, hR4⟩ := hE
                    obtain ⟨hq1, hq2, hq3⟩ := piece_in hpx hp
                    have hx := HX.out
                    rw [hpx] at hx
                    have hx2 : R = holdF s g q out pile (⟨(text : List UInt8).toArray⟩ ++ b) (some a0) := hx
                    rw [toA_append] at hx2
                    have hlen : (text ++ b.data.toList).length ≤ 4 * q := by
                      rw [List.length_append]
                      have := HB.out.2.2
                      have e : b.data.toList.length = b.size := rfl
                      omega
                    have HXX := Lib.hid hx2; have HK4 := Lib.hid (HK2.out.trans hK4); have HR4 := Lib.hid hR4; have HQ := Lib.hid (And.intro hq1 hlen)
                    clear hx hx2 hK4 hR4 hpx hq1 hq3 hlen
                    go_wp2_with fail
                    go_roundg (s.size + 1 - q)
                    case rel => exact ⟨q, g, out, pile, text ++ b.data.toList, some a0, _, _, bp4, tv4, by omega, hq2, by have := HM.out; have := HQ.out.1; omega, HB.out.1, by have := HB.out; have := HQ.out.1; omega, HQ.out.2, fun h => (by cases h), HXX.out, HR4.out, HK4.out⟩
                    case measure => have := HM.out; have := HQ.out.1; omega
      · have he := HRES.out.trans (holdF_cmt HPE.out hc)
        cases hx : cmtX s p with
        | bad ee aa =>
          rw [hx] at hS he
          obtain ⟨rfl, hK2⟩ := hS
          have HX := Lib.hid (show R = .bad ee aa from he)
          have HK2 := Lib.hid (HK1.out.trans (hK2.mono HR1.out.bld.lo))
          clear he hx hK2 hc hp1 hp2 hp3
          go_wp2_with fail
          refine ⟨rfl, ?_⟩
          rw [HX.out]
          exact ⟨rfl, HK2.out⟩
        | ok q u =>
          have hin := cmtX_in hx hc hp
          rw [hx] at hS he
          obtain ⟨rfl, hM2⟩ := hS
          have HX := Lib.hid (show R = holdF s g q out pile ⟨text.toArray⟩ from_ from he)
          have HR2 := Lib.hid (HR1.out.moved hM2)
          have HK2 := Lib.hid (HK1.out.trans (HR1.out.keep hM2)); have HIN := Lib.hid hin
          clear he hx hM2 hc hp1 hp2 hp3 hin
          go_wp2_with fail
          go_roundg (s.size + 1 - q)
          case rel => exact ⟨q, g, out, pile, text, from_, _, _, _, _, by have := HIN.out; omega, HIN.out.2, by have := HM.out; have := HIN.out; omega, HB.out.1, by have := HB.out; have := HIN.out; omega, by have := HB.out; have := HIN.out; omega, HF0.out, HX.out, HR2.out, HK2.out⟩
          case measure => have := HM.out; have := HIN.out; omega
end Go.Proofs.YtnmpbphnfiiafaaGreatDoor
