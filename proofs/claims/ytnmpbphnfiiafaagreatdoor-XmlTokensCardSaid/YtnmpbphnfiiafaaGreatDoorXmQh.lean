/-
  The document's answer: Unescape.
-/
import Derived.Test.YtnmpbphnfiiafaaGreatDoorXmZf
namespace Go.Proofs.YtnmpbphnfiiafaaGreatDoor
open Go.RowKit Go.PlainAid

theorem two_other {W : World} {sb cb : Nat} {x y u v : Value} (hns : sb ≠ cb) (h2 : W.cell? ⟨cb, 2, none⟩ = some u) (h3 : W.cell? ⟨cb, 3, none⟩ = some v) : ((W.setCell ⟨sb, 0, none⟩ x).setCell ⟨sb, 1, none⟩ y).cell? ⟨cb, 2, none⟩ = some u ∧ ((W.setCell ⟨sb, 0, none⟩ x).setCell ⟨sb, 1, none⟩ y).cell? ⟨cb, 3, none⟩ = some v := by
  have hb : ((W.setCell ⟨sb, 0, none⟩ x).setCell ⟨sb, 1, none⟩ y).heap[cb]? = W.heap[cb]? := (Below.heap_setCell _ _ _ _ (fun e => hns e.symm)).trans (Below.heap_setCell _ _ _ _ (fun e => hns e.symm))
  exact ⟨(World.cell?_of_block hb).trans h2, (World.cell?_of_block hb).trans h3⟩
/-- The spot that is handed back, and the scan behind it. -/
structure UnQ (w w1 : World) (sb cb : Nat) : Prop where
  spot0 : w1.heap[sb]? = some (.cells #[.int .i64 0, .int .i64 0] 26 (0, 0))
  ne : sb ≠ cb
  hs : w.heap.size ≤ sb
  hc : w.heap.size ≤ cb
  sz : sb < w1.heap.size
  szc : cb < w1.heap.size
  bel : Below w.heap.size w w1
theorem UnQ.spot {w w1 W : World} {sb cb : Nat} (h : UnQ w w1 sb cb) (hK : KeepX w1.heap.size cb w1 W) : W.heap[sb]? = some (.cells #[.int .i64 0, .int .i64 0] 26 (0, 0)) := (hK.block sb h.sz h.ne).trans h.spot0
theorem UnQ.belk {w w1 W : World} {sb cb : Nat} (h : UnQ w w1 sb cb) (hK : KeepX w1.heap.size cb w1 W) : Below w.heap.size w W := h.bel.trans (hK.below h.bel.size h.hc)
theorem UnQ.done {w w1 W : World} {sb cb : Nat} (h : UnQ w w1 sb cb) (hK : KeepX w1.heap.size cb w1 W) (x y : Value) : ((W.setCell ⟨sb, 0, none⟩ x).setCell ⟨sb, 1, none⟩ y).drew.cell? ⟨sb, 0, none⟩ = some x ∧ ((W.setCell ⟨sb, 0, none⟩ x).setCell ⟨sb, 1, none⟩ y).drew.cell? ⟨sb, 1, none⟩ = some y ∧ Below w.heap.size w ((W.setCell ⟨sb, 0, none⟩ x).setCell ⟨sb, 1, none⟩ y).drew := by
  have hb := setH (setH (h.spot hK) 0 x) 1 y
  exact ⟨cellH hb 0, cellH hb 1, (((h.belk hK).setCell h.hs _).setCell h.hs _).drew⟩
theorem UnQ.done0 {w w1 W : World} {sb cb : Nat} (h : UnQ w w1 sb cb) (hK : KeepX w1.heap.size cb w1 W) (x y : Value) : ((W.setCell ⟨sb, 0, none⟩ x).setCell ⟨sb, 1, none⟩ y).cell? ⟨sb, 0, none⟩ = some x ∧ ((W.setCell ⟨sb, 0, none⟩ x).setCell ⟨sb, 1, none⟩ y).cell? ⟨sb, 1, none⟩ = some y ∧ Below w.heap.size w ((W.setCell ⟨sb, 0, none⟩ x).setCell ⟨sb, 1, none⟩ y) := by
  have hb := setH (setH (h.spot hK) 0 x) 1 y
  exact ⟨cellH hb 0, cellH hb 1, ((h.belk hK).setCell h.hs _).setCell h.hs _⟩
section
set_option maxRecDepth 100000
set_option maxHeartbeats 8000000
theorem rUnescape_any (s : ByteArray) (w : World) (hz : s.size ≤ 100000000) :
    Calls Tryz.prog 24 #[.string s] w fun en w' => UnEnd s w en w' := by
  obtain ⟨i0, hi, hz0, hz1, hz2⟩ := info_parts binfo
  have hbr := fun W => rBroken_any s W (by omega)
  have hbt := get_bt s
  obtain ⟨wa, hwa⟩ : ∃ wa, w.alloc (.cells #[.int .i64 0, .int .i64 0] 26) = wa := ⟨_, rfl⟩
  have hSA : wa.heap[w.heap.size]? = some (.cells #[.int .i64 0, .int .i64 0] 26 (0, 0)) := by rw [← hwa]; exact push_new _ _ _ rfl
  have hBA : Below w.heap.size w wa := by rw [← hwa]; exact (Below.refl _ _).alloc (Nat.le_refl _) _
  have hza : wa.heap.size = w.heap.size + 1 := by rw [← hwa]; simp
  obtain ⟨sb, hsb⟩ : ∃ sb, w.heap.size = sb := ⟨_, rfl⟩
  by_cases hbk : 0 ≤ brk s 0
  · have hx : unescX s = .bad 6 (brk s 0).toNat := by unfold unescX; rw [if_pos hbk]
    obtain ⟨a, ha⟩ : ∃ a : Nat, brk s 0 = (a : Int) := ⟨(brk s 0).toNat, (Int.toNat_of_nonneg hbk).symm⟩
    rw [ha] at hbr
    rw [ha, Int.toNat_natCast] at hx
    have hI : (0 : Int) ≤ (a : Int) := by omega
    have g0 := freeH hSA 0
    have g1 := freeH hSA 1
    have k0 := cellH hSA 0
    have k1 := cellH hSA 1
    have hb2 := setH (setH hSA 0 (.int .i64 6)) 1 (.int .i64 (a : Int))
    have z0 := cellH hb2 0
    have z1 := cellH hb2 1
    have HX := Lib.hid hx
    have HB := Lib.hid (show Below w.heap.size w ((wa.setCell ⟨w.heap.size, 0, none⟩ (.int .i64 6)).setCell ⟨w.heap.size, 1, none⟩ (.int .i64 (a : Int))) from (hBA.setCell (Nat.le_refl _) _).setCell (Nat.le_refl _) _)
    have HWA := Lib.hid hwa; have HSB := Lib.hid hsb
    clear hx ha hbk hb2 hSA hBA hza hwa
    rw [hsb] at g0 g1 k0 k1 z0 z1
    clear hsb
    go_enter Tryz.func24, Tryz.ntmps24
    go_wp2_with fail
    rw [HWA.out, HSB.out]
    refine (hbr _).mono ?_
    rintro en w' ⟨rfl, rfl⟩
    go_wp2_with fail
    refine bodyPost_ret (v := .tuple #[.string ⟨#[]⟩, .agg #[.int .i64 6, .int .i64 (a : Int)]]) (by simp [results, Tryz.results24, go_sem, z0, z1]) rfl ?_
    unfold UnEnd
    rw [HX.out]
    refine ⟨rfl, ?_⟩
    have := HB.out
    rw [HSB.out] at this ⊢
    exact this
  · have hx0 : unescX s = unF s (s.size + 1) 0 ⟨#[]⟩ := by unfold unescX; rw [if_neg hbk]
    have hI0 : ¬ (0 : Int) ≤ brk s 0 := hbk
    have hID : decide ((0 : Int) ≤ brk s 0) = false := by simpa using hbk
    obtain ⟨w1, hw1⟩ : ∃ w1, wa.alloc (.cells #[.string s, .int .i64 0, .int .i64 0, .int .i64 0, .slice none 0 0, .slice none 0 0, .slice none 0 0, .int .i64 0] 62) = w1 := ⟨_, rfl⟩
    have hU : UnQ w w1 sb (sb + 1) := by
      have hsz : w1.heap.size = w.heap.size + 2 := by rw [← hw1]; simp; omega
      refine ⟨?_, by omega, by omega, by omega, by omega, by omega, ?_⟩
      · rw [← hw1, ← hsb]; exact (Lib.alloc_old _ _ _ (by omega)).trans hSA
      · rw [← hw1]; exact hBA.alloc (by omega) _
    have hM0 : Scn (sb + 1) s 0 0 0 (.slice none 0 0) (.slice none 0 0) (.slice none 0 0) (.int .i64 0) w1 := by
      rw [← hw1]; exact push_new _ _ _ (by omega)
    have hcb : wa.heap.size = sb + 1 := by omega
    have HX0 := Lib.hid hx0; have HU := Lib.hid hU; have HM0 := Lib.hid hM0; have HWA := Lib.hid hwa; have HW1 := Lib.hid hw1; have HSB := Lib.hid hsb; have HCB := Lib.hid hcb
    clear hx0 hbk hU hM0 hwa hw1 hsb hcb hSA hBA hza
    go_enter Tryz.func24, Tryz.ntmps24
    go_wp2_with fail
    rw [HWA.out, HSB.out]
    refine (hbr _).mono ?_
    rintro en w' ⟨rfl, rfl⟩
    go_wp2_with fail
    rw [HW1.out, HCB.out]
    clear HCB HW1 HWA hbr
    generalize hcb : sb + 1 = cb
    rw [hcb] at HU HM0
    clear hcb
    go_loopg [6] (s.size + 1) (fun f s6 wx => ∃ l : List UInt8, Br w1.heap.size wx s6 l ∧ l.length ≤ 400000004 ∧ ((∃ p g : Nat, f + p = s.size + 1 ∧ p ≤ s.size ∧ s.size < p + g ∧ l.length ≤ 4 * p ∧ unescX s = unF s g p ⟨l.toArray⟩ ∧ ScnM cb s 0 0 (.slice none 0 0) (.slice none 0 0) (.slice none 0 0) (.int .i64 0) w1 p wx) ∨ (∃ (e : Int) (a q : Nat), e ≠ 0 ∧ q ≤ s.size ∧ unescX s = .bad e a ∧ ScnM cb s e (a : Int) (.slice none 0 0) (.slice none 0 0) (.slice none 0 0) (.int .i64 0) w1 q wx)))
    case atStart => exact ⟨[], Br.nil _ _, by simp, .inl ⟨0, s.size + 1, by omega, Nat.zero_le _, by omega, by simp, HX0.out, HM0.out.moved (Below.refl _ _)⟩⟩
    case round =>
      obtain ⟨l, hrow, hl0, ⟨p, g, hg, hp, hgf, hl, hc, hM⟩ | ⟨e, a, q, he, hq, hc, hM⟩⟩ := hrel
      · obtain ⟨g, rfl⟩ : ∃ k, g = k + 1 := ⟨g - 1, by omega⟩
        have c0 := hM.1.cell0
        have c1 := hM.1.cell1
        have hbd := bad_no hM.1
        have HG := Lib.hid (And.intro hg (And.intro hgf hl)); have HC := Lib.hid hc; have HM := Lib.hid hM; have HROW := Lib.hid hrow
        have hp0 : (0 : Int) ≤ p := by omega
        obtain ⟨va, vc, hv⟩ := hrow.form
        subst hv
        clear hg hgf hl hc hM hrow hl0
        by_cases hlt : p < s.size
        · have hI : (p : Int) < s.size := by omega
          have HLT := Lib.hid hlt
          clear hlt
          by_cases h60 : bt s p = 60
          · have HX := Lib.hid (HC.out.trans (unF_bad (by have := HLT.out; omega) h60))
            have hwf := wrong_first HM.out.1 140 (p : Int)
            have h60b : (bt s p == 60) = true := by simpa using h60
            go_wp2_with fail
            refine hbd.mono ?_
            rintro en w' ⟨rfl, rfl⟩
            go_wp2_with fail
            refine hwf.mono ?_
            rintro en W9 ⟨rfl, hW9⟩
            have hM9 : ScnM cb s 140 (p : Int) (.slice none 0 0) (.slice none 0 0) (.slice none 0 0) (.int .i64 0) w1 p W9 := by
              rw [← hW9]; exact ⟨HM.out.1.mark 140 (p : Int), (HM.out.2.setCell 2 (.int .i64 140)).setCell 3 (.int .i64 (p : Int))⟩
            have HEZ := Lib.hid (show (140 : Int) ≠ 0 by decide)
            clear hW9 hwf hbd c0 c1 h60 h60b
            have hbd := bad_yes hM9.1 HEZ.out
            go_wp2_with fail
            refine hbd.mono ?_
            rintro en w' ⟨rfl, rfl⟩
            have hS9 := HU.out.spot hM9.2
            have hSd : W9.drew.cell? ⟨cb, 2, none⟩ = some (Value.int .i64 140) ∧ W9.drew.cell? ⟨cb, 3, none⟩ = some (Value.int .i64 (p : Int)) := ⟨hM9.1.cell2, hM9.1.cell3⟩
            have g0 : W9.frozen? ⟨sb, 0, none⟩ = false := freeH hS9 0
            have g1 : W9.frozen? ⟨sb, 1, none⟩ = false := freeH hS9 1
            have k0 : W9.cell? ⟨sb, 0, none⟩ = some (.int .i64 0) := cellH hS9 0
            have k1 : W9.cell? ⟨sb, 1, none⟩ = some (.int .i64 0) := cellH hS9 1
            have hns : sb ≠ cb := HU.out.ne
            have hSe : ((W9.setCell ⟨sb, 0, none⟩ (.int .i64 140)).setCell ⟨sb, 1, none⟩ (.int .i64 (p : Int))).drew.cell? ⟨cb, 2, none⟩ = some (Value.int .i64 140) ∧ ((W9.setCell ⟨sb, 0, none⟩ (.int .i64 140)).setCell ⟨sb, 1, none⟩ (.int .i64 (p : Int))).drew.cell? ⟨cb, 3, none⟩ = some (Value.int .i64 (p : Int)) := two_other hns hM9.1.cell2 hM9.1.cell3
            have HZ := Lib.hid (HU.out.done hM9.2 (.int .i64 140) (.int .i64 (p : Int)))
            clear hM9 hbd
            go_upto_region 11 with fail
            refine wp_region_held_drew (S := fun w' => w'.cell? ⟨cb, 2, none⟩ = some (Value.int .i64 140) ∧ w'.cell? ⟨cb, 3, none⟩ = some (Value.int .i64 (p : Int))) (by kernel_rfl) (hSd) (fun hHeld => ?_)
            refine tkH 0 hHeld ?_
            refine tkH 1 hHeld ?_
            refine tkH 2 hHeld ?_
            refine tkH 3 hHeld ?_
            refine tkH 4 hHeld ?_
            refine wpAnyH_ready (rs := [5]) (by kernel_rfl) (by simp) ?_
            refine AllReadyH.cons rfl (fun K hK => ?_) AllReadyH.nil
            go_simp
            refine hK.out _ _ (hSe) (fun hHeld => ?_)
            clear hK K
            refine wpAnyH_done (by kernel_rfl) ?_ _
            obtain ⟨z0, z1, zB⟩ := HZ.out
            go_wp2_with fail
            refine bodyPost_ret (v := .tuple #[.string ⟨#[]⟩, .agg #[.int .i64 140, .int .i64 (p : Int)]]) (by simp [results, Tryz.results24, go_sem, z0, z1]) rfl ?_
            unfold UnEnd
            rw [HX.out]
            exact ⟨rfl, zB⟩
          · have hst := HC.out.trans (unF_go (acc := ⟨l.toArray⟩) (by have := HLT.out; omega) h60)
            have hpc := rPiece_any HM.out.1 HLT.out (by omega)
            have h60b : (bt s p == 60) = false := by simpa using h60
            have HST := Lib.hid hst
            clear hst
            go_wp2_with fail
            refine hbd.mono ?_
            rintro en w' ⟨rfl, rfl⟩
            go_wp2_with fail
            refine hpc.mono ?_
            intro en w3 hE
            clear hpc hbd c0 c1 h60 h60b
            unfold PcEnd at hE
            cases hpx : pieceX s p with
            | bad ee aa =>
              rw [hpx] at hE
              obtain ⟨hee, rfl, q, hq, hM3⟩ := hE
              have hx := HST.out
              rw [hpx] at hx
              have hM4 := HM.out.next hM3
              have hrow3 := HROW.out.later (fun k hk => hM3.2.block k (HROW.out.lt k hk).2 (by have := (HROW.out.lt k hk).1; have := HU.out.szc; omega))
              have hbase : w1.heap.size ≤ w3.heap.size := hM4.2.size
              have hown : w3.ownsRow w1.heap.size 5 1 _ l.length (Lib.byteCells l) := hrow3
              have HX := Lib.hid hx; have HM4 := Lib.hid hM4; have HEE := Lib.hid hee
              have hl400 : l.length ≤ 400000000 := by have := HG.out; omega
              clear hx hM4 hM3 hrow3 hee hpx
              go_wp2_with (at_builtin; refine Lib.wpList_append_own_string _ rfl _ _ 60 9 rfl w1.heap.size 5 i0 Tryz.underlying60 Tryz.underlying9 hi hz0 hz1 hz2 _ _ _ rfl hown ⟨#[]⟩ rfl ?c3 ?c4 ?c5 ?_)
              case c3 => unfold maxLen; simp [ByteArray.size]; omega
              case c4 => simp [ByteArray.size]; omega
              case c5 => exact hbase
              intro v' w4 hown' hgrow _
              have hB2 := grown_below hgrow hbase (fun k hk => (World.ownsRow.lt hown k hk).1)
              have HR := Lib.hid (Br.more (s := ⟨#[]⟩) hown')
              have HM5 := Lib.hid (show ScnM cb s ee (aa : Int) (.slice none 0 0) (.slice none 0 0) (.slice none 0 0) (.int .i64 0) w1 q w4 from ⟨HM4.out.1.low HU.out.szc hB2, HM4.out.2.trans (KeepX.of hB2 (Nat.le_refl _))⟩)
              clear hgrow hown' hB2
              go_wp2_with fail
              go_roundg 0
              case rel => exact ⟨_, HR.out, by simp; omega, .inr ⟨ee, aa, q, HEE.out, hq, HX.out, HM5.out⟩⟩
              case measure => have := HG.out; omega
            | ok q b =>
              rw [hpx] at hE
              obtain ⟨rfl, hM3⟩ := hE
              have hx := HST.out
              rw [hpx] at hx
              simp only at hx
              rw [toA_append] at hx
              have hpi := piece_in hpx (by have := HLT.out; omega)
              have hM4 := HM.out.next hM3
              have hrow3 := HROW.out.later (fun k hk => hM3.2.block k (HROW.out.lt k hk).2 (by have := (HROW.out.lt k hk).1; have := HU.out.szc; omega))
              have hbase : w1.heap.size ≤ w3.heap.size := hM4.2.size
              have hown : w3.ownsRow w1.heap.size 5 1 _ l.length (Lib.byteCells l) := hrow3
              have HX := Lib.hid hx; have HM4 := Lib.hid hM4; have HPI := Lib.hid hpi
              have hl400 : l.length ≤ 400000000 := by have := HG.out; omega
              have hbz : b.size ≤ 400000000 := by have := HPI.out; omega
              clear hx hM4 hM3 hrow3 hpx hpi
              go_wp2_with (at_builtin; refine Lib.wpList_append_own_string _ rfl _ _ 60 9 rfl w1.heap.size 5 i0 Tryz.underlying60 Tryz.underlying9 hi hz0 hz1 hz2 _ _ _ rfl hown b rfl ?c3 ?c4 ?c5 ?_)
              case c3 => unfold maxLen; omega
              case c4 => omega
              case c5 => exact hbase
              intro v' w4 hown' hgrow _
              have hB2 := grown_below hgrow hbase (fun k hk => (World.ownsRow.lt hown k hk).1)
              have HR := Lib.hid (Br.more hown')
              have HM5 := Lib.hid (show ScnM cb s 0 0 (.slice none 0 0) (.slice none 0 0) (.slice none 0 0) (.int .i64 0) w1 q w4 from ⟨HM4.out.1.low HU.out.szc hB2, HM4.out.2.trans (KeepX.of hB2 (Nat.le_refl _))⟩)
              clear hgrow hown' hB2
              have hbl : b.data.toList.length = b.size := rfl
              go_wp2_with fail
              go_roundg (s.size + 1 - q)
              case rel => exact ⟨_, HR.out, by rw [List.length_append]; have := HPI.out; have := HG.out; omega, .inl ⟨q, g, by have := HPI.out; omega, by have := HPI.out; omega, by have := HPI.out; have := HG.out; omega, by rw [List.length_append]; have := HPI.out; have := HG.out; omega, HX.out, HM5.out⟩⟩
              case measure => have := HPI.out; have := HG.out; omega
        · have hI : ¬ (p : Int) < s.size := by omega
          have hID2 : decide ((p : Int) < s.size) = false := by simpa using hI
          have HX := Lib.hid (HC.out.trans (unF_end (by omega)))
          have htx := HROW.out.text
          have hS9 := HU.out.spot HM.out.2
          have g0 := freeH hS9 0
          have g1 := freeH hS9 1
          have k0 := cellH hS9 0
          have k1 := cellH hS9 1
          obtain ⟨z0, z1, zB⟩ := HU.out.done0 HM.out.2 (.int .i64 0) (.int .i64 0)
          have ZB := Lib.hid zB
          clear zB hS9
          go_wp2_with fail
          refine hbd.mono ?_
          rintro en w' ⟨rfl, rfl⟩
          go_wp2_with fail
          refine bodyPost_ret (v := .tuple #[.string ⟨l.toArray⟩, .agg #[.int .i64 0, .int .i64 0]]) (by simp [results, Tryz.results24, go_sem, z0, z1]) rfl ?_
          unfold UnEnd
          rw [HX.out]
          exact ⟨rfl, ZB.out⟩
      · have c0 := hM.1.cell0
        have c1 := hM.1.cell1
        have hbd := bad_yes hM.1 he
        have HX := Lib.hid hc; have HM := Lib.hid hM; have HEZ := Lib.hid he
        clear hc hM he hrow
        by_cases hlt : q < s.size
        · have hI : (q : Int) < s.size := by omega
          have hM9 := HM.out
          obtain ⟨W9, hW9⟩ : ∃ W9, wr = W9 := ⟨_, rfl⟩
          subst hW9
          go_wp2_with fail
          refine hbd.mono ?_
          rintro en w' ⟨rfl, rfl⟩
          clear hbd
          have hbd := bad_yes hM9.1 HEZ.out
          go_wp2_with fail
          refine hbd.mono ?_
          rintro en w' ⟨rfl, rfl⟩
          have hS9 := HU.out.spot hM9.2
          have hSd : wr.drew.cell? ⟨cb, 2, none⟩ = some (Value.int .i64 e) ∧ wr.drew.cell? ⟨cb, 3, none⟩ = some (Value.int .i64 (a : Int)) := ⟨hM9.1.cell2, hM9.1.cell3⟩
          have g0 : wr.frozen? ⟨sb, 0, none⟩ = false := freeH hS9 0
          have g1 : wr.frozen? ⟨sb, 1, none⟩ = false := freeH hS9 1
          have k0 : wr.cell? ⟨sb, 0, none⟩ = some (.int .i64 0) := cellH hS9 0
          have k1 : wr.cell? ⟨sb, 1, none⟩ = some (.int .i64 0) := cellH hS9 1
          have hns : sb ≠ cb := HU.out.ne
          have hSe : ((wr.setCell ⟨sb, 0, none⟩ (.int .i64 e)).setCell ⟨sb, 1, none⟩ (.int .i64 (a : Int))).drew.cell? ⟨cb, 2, none⟩ = some (Value.int .i64 e) ∧ ((wr.setCell ⟨sb, 0, none⟩ (.int .i64 e)).setCell ⟨sb, 1, none⟩ (.int .i64 (a : Int))).drew.cell? ⟨cb, 3, none⟩ = some (Value.int .i64 (a : Int)) := two_other hns hM9.1.cell2 hM9.1.cell3
          have HZ := Lib.hid (HU.out.done hM9.2 (.int .i64 e) (.int .i64 (a : Int)))
          clear hM9 hbd
          go_upto_region 11 with fail
          refine wp_region_held_drew (S := fun w' => w'.cell? ⟨cb, 2, none⟩ = some (Value.int .i64 e) ∧ w'.cell? ⟨cb, 3, none⟩ = some (Value.int .i64 (a : Int))) (by kernel_rfl) (hSd) (fun hHeld => ?_)
          refine tkH 0 hHeld ?_
          refine tkH 1 hHeld ?_
          refine tkH 2 hHeld ?_
          refine tkH 3 hHeld ?_
          refine tkH 4 hHeld ?_
          refine wpAnyH_ready (rs := [5]) (by kernel_rfl) (by simp) ?_
          refine AllReadyH.cons rfl (fun K hK => ?_) AllReadyH.nil
          go_simp
          refine hK.out _ _ (hSe) (fun hHeld => ?_)
          clear hK K
          refine wpAnyH_done (by kernel_rfl) ?_ _
          obtain ⟨z0, z1, zB⟩ := HZ.out
          go_wp2_with fail
          refine bodyPost_ret (v := .tuple #[.string ⟨#[]⟩, .agg #[.int .i64 e, .int .i64 (a : Int)]]) (by simp [results, Tryz.results24, go_sem, z0, z1]) rfl ?_
          unfold UnEnd
          rw [HX.out]
          exact ⟨rfl, zB⟩
        · have hI : ¬ (q : Int) < s.size := by omega
          have hID2 : decide ((q : Int) < s.size) = false := by simpa using hI
          have hM9 := HM.out
          go_wp2_with fail
          clear hbd
          have hbd := bad_yes hM9.1 HEZ.out
          go_wp2_with fail
          refine hbd.mono ?_
          rintro en w' ⟨rfl, rfl⟩
          have hS9 := HU.out.spot hM9.2
          have hSd : wr.drew.cell? ⟨cb, 2, none⟩ = some (Value.int .i64 e) ∧ wr.drew.cell? ⟨cb, 3, none⟩ = some (Value.int .i64 (a : Int)) := ⟨hM9.1.cell2, hM9.1.cell3⟩
          have g0 : wr.frozen? ⟨sb, 0, none⟩ = false := freeH hS9 0
          have g1 : wr.frozen? ⟨sb, 1, none⟩ = false := freeH hS9 1
          have k0 : wr.cell? ⟨sb, 0, none⟩ = some (.int .i64 0) := cellH hS9 0
          have k1 : wr.cell? ⟨sb, 1, none⟩ = some (.int .i64 0) := cellH hS9 1
          have hns : sb ≠ cb := HU.out.ne
          have hSe : ((wr.setCell ⟨sb, 0, none⟩ (.int .i64 e)).setCell ⟨sb, 1, none⟩ (.int .i64 (a : Int))).drew.cell? ⟨cb, 2, none⟩ = some (Value.int .i64 e) ∧ ((wr.setCell ⟨sb, 0, none⟩ (.int .i64 e)).setCell ⟨sb, 1, none⟩ (.int .i64 (a : Int))).drew.cell? ⟨cb, 3, none⟩ = some (Value.int .i64 (a : Int)) := two_other hns hM9.1.cell2 hM9.1.cell3
          have HZ := Lib.hid (HU.out.done hM9.2 (.int .i64 e) (.int .i64 (a : Int)))
          clear hM9 hbd
          go_upto_region 11 with fail
          refine wp_region_held_drew (S := fun w' => w'.cell? ⟨cb, 2, none⟩ = some (Value.int .i64 e) ∧ w'.cell? ⟨cb, 3, none⟩ = some (Value.int .i64 (a : Int))) (by kernel_rfl) (hSd) (fun hHeld => ?_)
          refine tkH 0 hHeld ?_
          refine tkH 1 hHeld ?_
          refine tkH 2 hHeld ?_
          refine tkH 3 hHeld ?_
          refine tkH 4 hHeld ?_
          refine wpAnyH_ready (rs := [5]) (by kernel_rfl) (by simp) ?_
          refine AllReadyH.cons rfl (fun K hK => ?_) AllReadyH.nil
          go_simp
          refine hK.out _ _ (hSe) (fun hHeld => ?_)
          clear hK K
          refine wpAnyH_done (by kernel_rfl) ?_ _
          obtain ⟨z0, z1, zB⟩ := HZ.out
          go_wp2_with fail
          refine bodyPost_ret (v := .tuple #[.string ⟨#[]⟩, .agg #[.int .i64 e, .int .i64 (a : Int)]]) (by simp [results, Tryz.results24, go_sem, z0, z1]) rfl ?_
          unfold UnEnd
          rw [HX.out]
          exact ⟨rfl, zB⟩
end
end Go.Proofs.YtnmpbphnfiiafaaGreatDoor
