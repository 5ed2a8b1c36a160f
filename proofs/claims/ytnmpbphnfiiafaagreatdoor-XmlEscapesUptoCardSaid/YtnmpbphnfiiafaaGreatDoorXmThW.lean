/-
  The walk of XmlThere: it returns true for every text.
-/
import Derived.Test.YtnmpbphnfiiafaaGreatDoorXmO4
namespace Go.Proofs.YtnmpbphnfiiafaaGreatDoor
open Go.RowKit Go.PlainAid

/-- What the row says of the library's variables. -/
abbrev Gl (w : World) : Prop := Gx w
theorem escT_bad {s : ByteArray} (h : takenE s ≠ 0) : escT s = ⟨#[]⟩ := by unfold escT; rw [if_neg h]
theorem taken_of {s : ByteArray} (h : takenE s = 0) : takenX s = true := by
  unfold takenE at h
  split at h
  · omega
  · split at h
    · assumption
    · omega
set_option maxRecDepth 100000 in
set_option maxHeartbeats 4000000 in
theorem xmlThere_walk (s : ByteArray) (w : World) (hz : s.size ≤ 1048576) (hG : Gl w) :
    Calls Tryz.prog 7 #[.string s] w fun e w' => e = .returned (.bool true) ∧ Below w.heap.size w w' := by
  have HWK := Lib.hid (wakes_any w hG)
  have HG := Lib.hid hG
  have HES := Lib.hid (fun W => escape_any s W (by omega))
  clear hG
  by_cases h0 : takenE s = 0
  · have htk := taken_of h0
    have hX : escT s = escB s := by unfold escT; rw [if_pos h0]
    have hun := unesc_esc htk
    have hge := escN_ge s.data.toList
    have hesz : (escB s).size ≤ 6 * s.size := hge.2
    have HUN := Lib.hid (fun W (hG : Gx W) => unescape_any (escB s) W (by omega) hG)
    have HU := Lib.hid hun; have HTK := Lib.hid htk
    rw [h0, hX] at HES
    have hes0 : (0 : Int) ≤ (escB s).size := by omega
    clear hun htk hX h0 hge
    have hsame := bytes_eqb s s
    rw [decide_eq_true rfl] at hsame
    go_enter Tryz.func7, Tryz.ntmps7
    go_wp2_with fail
    refine HWK.out.mono ?_
    rintro e w1 ⟨rfl, hB1⟩
    have HB1 := Lib.hid hB1
    clear hB1
    go_wp2_with fail
    refine (HES.out w1).mono ?_
    rintro e w2 ⟨rfl, hB2⟩
    have hB2' := HB1.out.trans (hB2.mono HB1.out.size)
    have hG2 := HG.out.on hB2'
    have HUW := Lib.hid (HUN.out w2 hG2)
    have HB2 := Lib.hid hB2'; have HG2 := Lib.hid hG2
    clear hB2 hB2' hG2 HUN
    go_wp2_with fail
    refine HUW.out.mono ?_
    intro e w3 hE
    unfold UnEnd at hE
    rw [HU.out] at hE
    obtain ⟨rfl, hB3⟩ := hE
    have hB3' := HB2.out.trans (hB3.mono HB2.out.size)
    have HB3 := Lib.hid hB3'; have HG3 := Lib.hid (HG2.out.on hB3)
    clear hB3 hB3' HUW
    by_cases hse : s.size = 0
    · have hnil := bytes_nil hse
      go_wp2_with fail
      go_ret
      exact ⟨rfl, HB3.out.trans (((Below.refl w3.heap.size w3).alloc (Nat.le_refl _) _).mono HB3.out.size)⟩
    · have hne := bytes_ne hse
      by_cases h4 : 4096 < s.size
      · have hI : (4096 : Int) < s.size := by omega
        go_wp2_with fail
        go_ret
        exact ⟨rfl, HB3.out.trans (((Below.refl w3.heap.size w3).alloc (Nat.le_refl _) _).mono HB3.out.size)⟩
      · have hI : ¬ (4096 : Int) < s.size := by omega
        have hc1 : (⟨#[60, 97, 32, 118, 61, 34]⟩ : ByteArray).size = 6 := rfl
        have hc2 : (⟨#[34, 62]⟩ : ByteArray).size = 2 := rfl
        have hc3 : (⟨#[60, 47, 97, 62]⟩ : ByteArray).size = 4 := rfl
        obtain ⟨z, p1, p2, htok⟩ := there_tokens HTK.out hse (by omega)
        have HTOK := Lib.hid htok
        go_upto_region 12 with fail
        have hA := (Below.refl w3.heap.size w3).alloc (Nat.le_refl _) (.cells #[.int .i64 0, .int .i64 0] 26)
        have hBA := HB3.out.trans (hA.mono HB3.out.size)
        have hG4 := HG3.out.on hA
        have hT := Blk.new w3 #[.int .i64 0, .int .i64 0] 26
        refine (tokens_any (thereF s) _ hG4).mono ?_
        intro e w4 hE
        unfold TokEnd at hE
        rw [HTOK.out] at hE
        obtain ⟨v, rfl, ⟨ms, hrow, hml, hms⟩, hB4⟩ := hE
        have hT4 := hT.on hB4
        have hml2 : ms.length = 3 := hml
        rcases hrow.read with ⟨e, _⟩ | ⟨g, cap, hv, hgl, _, _, _, hc⟩
        · rw [e] at hml2; simp at hml2
        have hx0 : w4.cell? ⟨g, 2, none⟩ = some (.slice (ms[0]'(by omega)).aa (ms[0]'(by omega)).an (ms[0]'(by omega)).ac) := hc 0 (by omega) 2 (by decide)
        have hx1 : w4.cell? ⟨g, 8, none⟩ = some (.string (ms[1]'(by omega)).text) := hc 1 (by omega) 3 (by decide)
        have ht1 : (ms[1]'(by omega)).text = s := (hms 1 (by omega) (by simp)).text
        rw [ht1] at hx1
        have hok := hms 0 (by omega) (by simp)
        rcases hok.attrs.read with ⟨e, _⟩ | ⟨ag, acap, hav, hagl, _, _, _, hac⟩
        · cases e
        have ha1 : w4.cell? ⟨ag, 1, none⟩ = some (.string s) := hac 0 (by simp) 1 (by decide)
        rw [hav] at hx0
        rw [hml2] at hv
        subst hv
        have hB4' := hBA.trans (hB4.mono hBA.size)
        have hzA : (w3.alloc (.cells #[.int .i64 0, .int .i64 0] 26)).heap.size = w3.heap.size + 1 := by simp
        rw [hzA] at hgl hagl
        have hn1 : w3.heap.size ≠ g := by omega
        have hn2 : w3.heap.size ≠ ag := by omega
        have t0 : w4.cell? ⟨w3.heap.size, 0, none⟩ = some (.int .i64 0) := hT4.cell 0
        have t1 : w4.cell? ⟨w3.heap.size, 1, none⟩ = some (.int .i64 0) := hT4.cell 1
        have f0 := hT4.free 0
        have f1 := hT4.free 1
        have HB4 := Lib.hid hB4'
        have hlo := HB3.out.size
        clear hrow hml hms hc hok hac hav ht1 hB4 hB4' hT hT4 hA hBA hG4 hzA hml2
        generalize w3.heap.size = tb at *
        go_wp2_with fail
        go_ret
        refine ⟨rfl, ?_⟩
        first | exact HB4.out | exact (HB4.out.setCell hlo _).setCell hlo _
  · have hX := escT_bad h0
    rw [hX] at HES
    obtain ⟨k, hk⟩ : ∃ k, takenE s = k := ⟨_, rfl⟩
    rw [hk] at HES h0
    have hk0 : (k == 0) = false := by simpa using h0
    clear hX hk
    go_enter Tryz.func7, Tryz.ntmps7
    go_wp2_with fail
    refine HWK.out.mono ?_
    rintro e w1 ⟨rfl, hB1⟩
    go_wp2_with fail
    refine (HES.out w1).mono ?_
    rintro e w2 ⟨rfl, hB2⟩
    have hB3 := hB1.trans (hB2.mono hB1.size)
    clear hB1 hB2
    go_wp2_with fail
    go_ret
    exact ⟨rfl, hB3⟩
end Go.Proofs.YtnmpbphnfiiafaaGreatDoor
