/-
  The walk of XmlEscapes: it returns true for every text.
-/
import Derived.Test.YtnmpbphnfiiafaaGreatDoorXmThW
import Derived.Test.YtnmpbphnfiiafaaGreatDoorXmQh
import Derived.Test.YtnmpbphnfiiafaaGreatDoorXmYe
namespace Go.Proofs.YtnmpbphnfiiafaaGreatDoor
open Go.RowKit Go.PlainAid

set_option maxRecDepth 100000 in
theorem rRightX_any (s : ByteArray) (w : World) (hz : s.size ≤ 1000000000000000) : Calls Tryz.prog 20 #[.string s] w fun e w' => e = .returned (.bool (decide (brk s 0 < 0))) ∧ w = w' := by
  have hb := rBroken_any s w hz
  go_enter Tryz.func20, Tryz.ntmps20
  go_wp2_with fail
  refine hb.mono ?_
  rintro e w' ⟨rfl, rfl⟩
  go_wp2_with fail
  go_ret
  exact ⟨rfl, rfl⟩
theorem ne_self (x : ByteArray) : (x.toList != x.toList) = false := by simp
set_option maxRecDepth 100000 in
set_option maxHeartbeats 4000000 in
theorem xmlEscapes_walk (s : ByteArray) (w : World) (hz : s.size ≤ 1048576) (hG : Gl w) :
    Calls Tryz.prog 5 #[.string s] w fun e w' => e = .returned (.bool true) ∧ Below w.heap.size w w' := by
  have HWK := Lib.hid (wakes_any w hG)
  have HG := Lib.hid hG
  have HES := Lib.hid (fun W => escape_any s W (by omega))
  have HRI := Lib.hid (fun W => rRightX_any s W (by omega))
  have HTA := Lib.hid (fun W => rTaken_any s W (by omega))
  have HRE := Lib.hid (fun W => rEscape_any s W (by omega))
  have HUN := Lib.hid (fun W (hG : Gx W) => unescape_any s W (by omega) hG)
  have HRU := Lib.hid (fun W => rUnescape_any s W (by omega))
  clear hG
  by_cases hbk : 0 ≤ brk s 0
  · have h6 : takenE s = 6 := by unfold takenE; rw [if_pos hbk]
    have hX : escT s = ⟨#[]⟩ := escT_bad (by rw [h6]; decide)
    rw [h6, hX] at HES
    rw [decide_eq_false (show ¬ brk s 0 < 0 by omega)] at HRI
    clear hbk h6 hX
    go_enter Tryz.func5, Tryz.ntmps5
    go_wp2_with fail
    refine HWK.out.mono ?_
    rintro e w1 ⟨rfl, hB1⟩
    have HB1 := Lib.hid hB1
    clear hB1
    go_wp2_with fail
    refine (HES.out w1).mono ?_
    rintro e w2 ⟨rfl, hB2⟩
    have HB2 := Lib.hid (HB1.out.trans (hB2.mono HB1.out.size))
    have hG2 := Lib.hid (HG.out.on HB2.out)
    clear hB2
    go_wp2_with fail
    refine (HRI.out w2).mono ?_
    rintro e w' ⟨rfl, rfl⟩
    cases hu : unescX s with
    | bad ee aa =>
      have HU := Lib.hid hu
      clear hu
      go_wp2_with fail
      refine (HUN.out _ hG2.out).mono ?_
      intro e w3 hE
      unfold UnEnd at hE
      rw [HU.out] at hE
      obtain ⟨rfl, hB3⟩ := hE
      have hB3' := HB2.out.trans (hB3.mono HB2.out.size)
      have HB3 := Lib.hid hB3'
      clear hB3 hB3'
      go_upto_region 13 with fail
      have hA := (Below.refl w3.heap.size w3).alloc (Nat.le_refl _) (.cells #[.int .i64 ee, .int .i64 (aa : Int)] 26)
      have hT := Blk.new w3 #[.int .i64 ee, .int .i64 (aa : Int)] 26
      have hBA := Lib.hid (HB3.out.trans (hA.mono HB3.out.size))
      have hlt3 : w3.heap.size < (w3.alloc (.cells #[.int .i64 ee, .int .i64 (aa : Int)] 26)).heap.size := by simp
      generalize hw4 : w3.alloc (.cells #[.int .i64 ee, .int .i64 (aa : Int)] 26) = w4 at *
      generalize hsb : w3.heap.size = sb at *
      clear hw4 hsb hA
      go_wp2_with fail
      refine (HRU.out w4).mono ?_
      intro e w5 hE
      unfold UnEnd at hE
      rw [HU.out] at hE
      obtain ⟨rfl, hB5⟩ := hE
      have hT5 := hT.on hB5
      have HB5 := Lib.hid ((hBA.out.trans (hB5.mono hBA.out.size)).trans (((Below.refl w5.heap.size w5).alloc (Nat.le_refl _) (.cells #[.int .i64 ee, .int .i64 (aa : Int)] 26)).mono (hBA.out.trans (hB5.mono hBA.out.size)).size))
      go_upto_region 14 with fail
      have hT6 := hT5.alloc (.cells #[.int .i64 ee, .int .i64 (aa : Int)] 26)
      have hT7 := Blk.new w5 #[.int .i64 ee, .int .i64 (aa : Int)] 26
      generalize w5.alloc (.cells #[.int .i64 ee, .int .i64 (aa : Int)] 26) = w6 at *
      generalize w5.heap.size = sc at *
      have c0 : w6.cell? ⟨sb, 0, none⟩ = some (.int .i64 ee) := hT6.cell 0
      have c1 : w6.cell? ⟨sb, 1, none⟩ = some (.int .i64 (aa : Int)) := hT6.cell 1
      have d0 : w6.cell? ⟨sc, 0, none⟩ = some (.int .i64 ee) := hT7.cell 0
      have d1 : w6.cell? ⟨sc, 1, none⟩ = some (.int .i64 (aa : Int)) := hT7.cell 1
      clear hB5 hT hT5 hT6 hT7 hlt3
      go_wp2_with fail
      go_ret
      exact ⟨rfl, HB5.out⟩
    | ok pp bb =>
      have HU := Lib.hid hu
      clear hu
      have hsame := bytes_eqb bb bb
      rw [decide_eq_true rfl] at hsame
      go_wp2_with fail
      refine (HUN.out _ hG2.out).mono ?_
      intro e w3 hE
      unfold UnEnd at hE
      rw [HU.out] at hE
      obtain ⟨rfl, hB3⟩ := hE
      have hB3' := HB2.out.trans (hB3.mono HB2.out.size)
      have HB3 := Lib.hid hB3'
      clear hB3 hB3'
      go_upto_region 13 with fail
      have hA := (Below.refl w3.heap.size w3).alloc (Nat.le_refl _) (.cells #[.int .i64 0, .int .i64 0] 26)
      have hT := Blk.new w3 #[.int .i64 0, .int .i64 0] 26
      have hBA := Lib.hid (HB3.out.trans (hA.mono HB3.out.size))
      have hlt3 : w3.heap.size < (w3.alloc (.cells #[.int .i64 0, .int .i64 0] 26)).heap.size := by simp
      generalize hw4 : w3.alloc (.cells #[.int .i64 0, .int .i64 0] 26) = w4 at *
      generalize hsb : w3.heap.size = sb at *
      clear hw4 hsb hA
      go_wp2_with fail
      refine (HRU.out w4).mono ?_
      intro e w5 hE
      unfold UnEnd at hE
      rw [HU.out] at hE
      obtain ⟨rfl, hB5⟩ := hE
      have hT5 := hT.on hB5
      have HB5 := Lib.hid ((hBA.out.trans (hB5.mono hBA.out.size)).trans (((Below.refl w5.heap.size w5).alloc (Nat.le_refl _) (.cells #[.int .i64 0, .int .i64 0] 26)).mono (hBA.out.trans (hB5.mono hBA.out.size)).size))
      go_upto_region 14 with fail
      have hT6 := hT5.alloc (.cells #[.int .i64 0, .int .i64 0] 26)
      have hT7 := Blk.new w5 #[.int .i64 0, .int .i64 0] 26
      generalize w5.alloc (.cells #[.int .i64 0, .int .i64 0] 26) = w6 at *
      generalize w5.heap.size = sc at *
      have c0 : w6.cell? ⟨sb, 0, none⟩ = some (.int .i64 0) := hT6.cell 0
      have c1 : w6.cell? ⟨sb, 1, none⟩ = some (.int .i64 0) := hT6.cell 1
      have d0 : w6.cell? ⟨sc, 0, none⟩ = some (.int .i64 0) := hT7.cell 0
      have d1 : w6.cell? ⟨sc, 1, none⟩ = some (.int .i64 0) := hT7.cell 1
      clear hB5 hT hT5 hT6 hT7 hlt3
      go_wp2_with fail
      go_ret
      exact ⟨rfl, HB5.out⟩
  · rw [decide_eq_true (show brk s 0 < 0 by omega)] at HRI
    by_cases htk : takenX s = true
    · have h0 : takenE s = 0 := by unfold takenE; rw [if_neg hbk, if_pos htk]
      have hX : escT s = escB s := by unfold escT; rw [if_pos h0]
      rw [h0, hX] at HES
      rw [htk] at HTA
      have hself := ne_self (escB s)
      have hself2 := bytes_eqb (escB s) (escB s)
      rw [decide_eq_true rfl] at hself2
      clear hbk h0 hX htk
      go_enter Tryz.func5, Tryz.ntmps5
      go_wp2_with fail
      refine HWK.out.mono ?_
      rintro e w1 ⟨rfl, hB1⟩
      have HB1 := Lib.hid hB1
      clear hB1
      go_wp2_with fail
      refine (HES.out w1).mono ?_
      rintro e w2 ⟨rfl, hB2⟩
      have HB2a := Lib.hid (HB1.out.trans (hB2.mono HB1.out.size))
      clear hB2
      go_wp2_with fail
      refine (HRI.out w2).mono ?_
      rintro e w' ⟨rfl, rfl⟩
      go_wp2_with fail
      refine (HTA.out _).mono ?_
      rintro e w' ⟨rfl, rfl⟩
      go_wp2_with fail
      refine (HRE.out _).mono ?_
      rintro e w2b ⟨rfl, hB2b⟩
      have HB2 := Lib.hid (HB2a.out.trans (hB2b.mono HB2a.out.size))
      have hG2 := Lib.hid (HG.out.on HB2.out)
      clear hB2b
      cases hu : unescX s with
      | bad ee aa =>
        have HU := Lib.hid hu
        clear hu
        go_wp2_with fail
        refine (HUN.out _ hG2.out).mono ?_
        intro e w3 hE
        unfold UnEnd at hE
        rw [HU.out] at hE
        obtain ⟨rfl, hB3⟩ := hE
        have hB3' := HB2.out.trans (hB3.mono HB2.out.size)
        have HB3 := Lib.hid hB3'
        clear hB3 hB3'
        go_upto_region 13 with fail
        have hA := (Below.refl w3.heap.size w3).alloc (Nat.le_refl _) (.cells #[.int .i64 ee, .int .i64 (aa : Int)] 26)
        have hT := Blk.new w3 #[.int .i64 ee, .int .i64 (aa : Int)] 26
        have hBA := Lib.hid (HB3.out.trans (hA.mono HB3.out.size))
        have hlt3 : w3.heap.size < (w3.alloc (.cells #[.int .i64 ee, .int .i64 (aa : Int)] 26)).heap.size := by simp
        generalize hw4 : w3.alloc (.cells #[.int .i64 ee, .int .i64 (aa : Int)] 26) = w4 at *
        generalize hsb : w3.heap.size = sb at *
        clear hw4 hsb hA
        go_wp2_with fail
        refine (HRU.out w4).mono ?_
        intro e w5 hE
        unfold UnEnd at hE
        rw [HU.out] at hE
        obtain ⟨rfl, hB5⟩ := hE
        have hT5 := hT.on hB5
        have HB5 := Lib.hid ((hBA.out.trans (hB5.mono hBA.out.size)).trans (((Below.refl w5.heap.size w5).alloc (Nat.le_refl _) (.cells #[.int .i64 ee, .int .i64 (aa : Int)] 26)).mono (hBA.out.trans (hB5.mono hBA.out.size)).size))
        go_upto_region 14 with fail
        have hT6 := hT5.alloc (.cells #[.int .i64 ee, .int .i64 (aa : Int)] 26)
        have hT7 := Blk.new w5 #[.int .i64 ee, .int .i64 (aa : Int)] 26
        generalize w5.alloc (.cells #[.int .i64 ee, .int .i64 (aa : Int)] 26) = w6 at *
        generalize w5.heap.size = sc at *
        have c0 : w6.cell? ⟨sb, 0, none⟩ = some (.int .i64 ee) := hT6.cell 0
        have c1 : w6.cell? ⟨sb, 1, none⟩ = some (.int .i64 (aa : Int)) := hT6.cell 1
        have d0 : w6.cell? ⟨sc, 0, none⟩ = some (.int .i64 ee) := hT7.cell 0
        have d1 : w6.cell? ⟨sc, 1, none⟩ = some (.int .i64 (aa : Int)) := hT7.cell 1
        clear hB5 hT hT5 hT6 hT7 hlt3
        go_wp2_with fail
        go_ret
        exact ⟨rfl, HB5.out⟩
      | ok pp bb =>
        have HU := Lib.hid hu
        clear hu
        have hsame := bytes_eqb bb bb
        rw [decide_eq_true rfl] at hsame
        go_wp2_with fail
        refine (HUN.out _ hG2.out).mono ?_
        intro e w3 hE
        unfold UnEnd at hE
        rw [HU.out] at hE
        obtain ⟨rfl, hB3⟩ := hE
        have hB3' := HB2.out.trans (hB3.mono HB2.out.size)
        have HB3 := Lib.hid hB3'
        clear hB3 hB3'
        go_upto_region 13 with fail
        have hA := (Below.refl w3.heap.size w3).alloc (Nat.le_refl _) (.cells #[.int .i64 0, .int .i64 0] 26)
        have hT := Blk.new w3 #[.int .i64 0, .int .i64 0] 26
        have hBA := Lib.hid (HB3.out.trans (hA.mono HB3.out.size))
        have hlt3 : w3.heap.size < (w3.alloc (.cells #[.int .i64 0, .int .i64 0] 26)).heap.size := by simp
        generalize hw4 : w3.alloc (.cells #[.int .i64 0, .int .i64 0] 26) = w4 at *
        generalize hsb : w3.heap.size = sb at *
        clear hw4 hsb hA
        go_wp2_with fail
        refine (HRU.out w4).mono ?_
        intro e w5 hE
        unfold UnEnd at hE
        rw [HU.out] at hE
        obtain ⟨rfl, hB5⟩ := hE
        have hT5 := hT.on hB5
        have HB5 := Lib.hid ((hBA.out.trans (hB5.mono hBA.out.size)).trans (((Below.refl w5.heap.size w5).alloc (Nat.le_refl _) (.cells #[.int .i64 0, .int .i64 0] 26)).mono (hBA.out.trans (hB5.mono hBA.out.size)).size))
        go_upto_region 14 with fail
        have hT6 := hT5.alloc (.cells #[.int .i64 0, .int .i64 0] 26)
        have hT7 := Blk.new w5 #[.int .i64 0, .int .i64 0] 26
        generalize w5.alloc (.cells #[.int .i64 0, .int .i64 0] 26) = w6 at *
        generalize w5.heap.size = sc at *
        have c0 : w6.cell? ⟨sb, 0, none⟩ = some (.int .i64 0) := hT6.cell 0
        have c1 : w6.cell? ⟨sb, 1, none⟩ = some (.int .i64 0) := hT6.cell 1
        have d0 : w6.cell? ⟨sc, 0, none⟩ = some (.int .i64 0) := hT7.cell 0
        have d1 : w6.cell? ⟨sc, 1, none⟩ = some (.int .i64 0) := hT7.cell 1
        clear hB5 hT hT5 hT6 hT7 hlt3
        go_wp2_with fail
        go_ret
        exact ⟨rfl, HB5.out⟩
    · have htk' : takenX s = false := by cases h : takenX s with
        | true => exact absurd h htk
        | false => rfl
      have h2 : takenE s = 2 := by unfold takenE; rw [if_neg hbk, if_neg htk]
      have hX : escT s = ⟨#[]⟩ := escT_bad (by rw [h2]; decide)
      rw [h2, hX] at HES
      rw [htk'] at HTA
      clear hbk h2 hX htk htk'
      go_enter Tryz.func5, Tryz.ntmps5
      go_wp2_with fail
      refine HWK.out.mono ?_
      rintro e w1 ⟨rfl, hB1⟩
      have HB1 := Lib.hid hB1
      clear hB1
      go_wp2_with fail
      refine (HES.out w1).mono ?_
      rintro e w2 ⟨rfl, hB2⟩
      have HB2 := Lib.hid (HB1.out.trans (hB2.mono HB1.out.size))
      have hG2 := Lib.hid (HG.out.on HB2.out)
      clear hB2
      go_wp2_with fail
      refine (HRI.out w2).mono ?_
      rintro e w' ⟨rfl, rfl⟩
      go_wp2_with fail
      refine (HTA.out _).mono ?_
      rintro e w' ⟨rfl, rfl⟩
      cases hu : unescX s with
      | bad ee aa =>
        have HU := Lib.hid hu
        clear hu
        go_wp2_with fail
        refine (HUN.out _ hG2.out).mono ?_
        intro e w3 hE
        unfold UnEnd at hE
        rw [HU.out] at hE
        obtain ⟨rfl, hB3⟩ := hE
        have hB3' := HB2.out.trans (hB3.mono HB2.out.size)
        have HB3 := Lib.hid hB3'
        clear hB3 hB3'
        go_upto_region 13 with fail
        have hA := (Below.refl w3.heap.size w3).alloc (Nat.le_refl _) (.cells #[.int .i64 ee, .int .i64 (aa : Int)] 26)
        have hT := Blk.new w3 #[.int .i64 ee, .int .i64 (aa : Int)] 26
        have hBA := Lib.hid (HB3.out.trans (hA.mono HB3.out.size))
        have hlt3 : w3.heap.size < (w3.alloc (.cells #[.int .i64 ee, .int .i64 (aa : Int)] 26)).heap.size := by simp
        generalize hw4 : w3.alloc (.cells #[.int .i64 ee, .int .i64 (aa : Int)] 26) = w4 at *
        generalize hsb : w3.heap.size = sb at *
        clear hw4 hsb hA
        go_wp2_with fail
        refine (HRU.out w4).mono ?_
        intro e w5 hE
        unfold UnEnd at hE
        rw [HU.out] at hE
        obtain ⟨rfl, hB5⟩ := hE
        have hT5 := hT.on hB5
        have HB5 := Lib.hid ((hBA.out.trans (hB5.mono hBA.out.size)).trans (((Below.refl w5.heap.size w5).alloc (Nat.le_refl _) (.cells #[.int .i64 ee, .int .i64 (aa : Int)] 26)).mono (hBA.out.trans (hB5.mono hBA.out.size)).size))
        go_upto_region 14 with fail
        have hT6 := hT5.alloc (.cells #[.int .i64 ee, .int .i64 (aa : Int)] 26)
        have hT7 := Blk.new w5 #[.int .i64 ee, .int .i64 (aa : Int)] 26
        generalize w5.alloc (.cells #[.int .i64 ee, .int .i64 (aa : Int)] 26) = w6 at *
        generalize w5.heap.size = sc at *
        have c0 : w6.cell? ⟨sb, 0, none⟩ = some (.int .i64 ee) := hT6.cell 0
        have c1 : w6.cell? ⟨sb, 1, none⟩ = some (.int .i64 (aa : Int)) := hT6.cell 1
        have d0 : w6.cell? ⟨sc, 0, none⟩ = some (.int .i64 ee) := hT7.cell 0
        have d1 : w6.cell? ⟨sc, 1, none⟩ = some (.int .i64 (aa : Int)) := hT7.cell 1
        clear hB5 hT hT5 hT6 hT7 hlt3
        go_wp2_with fail
        go_ret
        exact ⟨rfl, HB5.out⟩
      | ok pp bb =>
        have HU := Lib.hid hu
        clear hu
        have hsame := bytes_eqb bb bb
        rw [decide_eq_true rfl] at hsame
        go_wp2_with fail
        refine (HUN.out _ hG2.out).mono ?_
        intro e w3 hE
        unfold UnEnd at hE
        rw [HU.out] at hE
        obtain ⟨rfl, hB3⟩ := hE
        have hB3' := HB2.out.trans (hB3.mono HB2.out.size)
        have HB3 := Lib.hid hB3'
        clear hB3 hB3'
        go_upto_region 13 with fail
        have hA := (Below.refl w3.heap.size w3).alloc (Nat.le_refl _) (.cells #[.int .i64 0, .int .i64 0] 26)
        have hT := Blk.new w3 #[.int .i64 0, .int .i64 0] 26
        have hBA := Lib.hid (HB3.out.trans (hA.mono HB3.out.size))
        have hlt3 : w3.heap.size < (w3.alloc (.cells #[.int .i64 0, .int .i64 0] 26)).heap.size := by simp
        generalize hw4 : w3.alloc (.cells #[.int .i64 0, .int .i64 0] 26) = w4 at *
        generalize hsb : w3.heap.size = sb at *
        clear hw4 hsb hA
        go_wp2_with fail
        refine (HRU.out w4).mono ?_
        intro e w5 hE
        unfold UnEnd at hE
        rw [HU.out] at hE
        obtain ⟨rfl, hB5⟩ := hE
        have hT5 := hT.on hB5
        have HB5 := Lib.hid ((hBA.out.trans (hB5.mono hBA.out.size)).trans (((Below.refl w5.heap.size w5).alloc (Nat.le_refl _) (.cells #[.int .i64 0, .int .i64 0] 26)).mono (hBA.out.trans (hB5.mono hBA.out.size)).size))
        go_upto_region 14 with fail
        have hT6 := hT5.alloc (.cells #[.int .i64 0, .int .i64 0] 26)
        have hT7 := Blk.new w5 #[.int .i64 0, .int .i64 0] 26
        generalize w5.alloc (.cells #[.int .i64 0, .int .i64 0] 26) = w6 at *
        generalize w5.heap.size = sc at *
        have c0 : w6.cell? ⟨sb, 0, none⟩ = some (.int .i64 0) := hT6.cell 0
        have c1 : w6.cell? ⟨sb, 1, none⟩ = some (.int .i64 0) := hT6.cell 1
        have d0 : w6.cell? ⟨sc, 0, none⟩ = some (.int .i64 0) := hT7.cell 0
        have d1 : w6.cell? ⟨sc, 1, none⟩ = some (.int .i64 0) := hT7.cell 1
        clear hB5 hT hT5 hT6 hT7 hlt3
        go_wp2_with fail
        go_ret
        exact ⟨rfl, HB5.out⟩
end Go.Proofs.YtnmpbphnfiiafaaGreatDoor
