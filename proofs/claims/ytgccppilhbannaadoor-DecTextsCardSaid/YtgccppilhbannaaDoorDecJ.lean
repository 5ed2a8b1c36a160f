/-
  The walk of the reference's Parse.
-/
import Derived.Test.YtgccppilhbannaaDoorDecI
import Derived.Test.YtgccppilhbannaaDoorDecE
import Derived.Deep.Cut
import Derived.Deep.DeepCutAuto
namespace Go.Proofs.YtgccppilhbannaaDoor
open Go.RowKit Go.PlainAid

theorem parse_bytes {s : ByteArray} (hd : digAt s (pFrom s) = true) (h2 : pEnd s < s.size → bt s (pEnd s) = 46 ∧ 0 < pScale s ∧ pEnd s + 1 + pScale s = s.size) (q : Nat) (h1 : pFrom s ≤ q) (hq : q < s.size) : bt s q = 46 ∨ 48 ≤ bt s q ∧ bt s q ≤ 57 := by
  obtain ⟨a, b, c⟩ := pEnd_facts hd
  by_cases e1 : q < pEnd s
  · exact .inr (c q h1 e1)
  · have he : pEnd s < s.size := by omega
    obtain ⟨h46, h0, h3⟩ := h2 he
    by_cases e2 : q = pEnd s
    · rw [e2]; exact .inl h46
    · have hps : pScale s = ndig s (pEnd s + 1) := if_pos he
      obtain ⟨n1, _⟩ := nd_all s _ (pEnd s + 1) rfl
      have := n1 (q - (pEnd s + 1)) (by omega)
      rw [show pEnd s + 1 + (q - (pEnd s + 1)) = q by omega] at this
      exact .inr (digAt_iff.1 this).2
theorem lowL_length (L : List UInt8) : (lowL L).length ≤ L.length := by
  unfold lowL
  rw [List.length_reverse, List.length_map]
  exact List.length_filter_le _ _
theorem lowL_len (s : ByteArray) (m : Nat) : (lowL (s.data.toList.drop m)).length ≤ s.size := by
  refine Nat.le_trans (lowL_length _) ?_
  rw [List.length_drop, ← Lib.size_eq]
  omega

set_option maxRecDepth 100000 in
set_option maxHeartbeats 4000000 in
theorem rParse_any (s : ByteArray) (w : World) (hs : s.size ≤ 1000000000000000) :
    Calls Tryd.prog 14 #[.string s] w fun e w' => e = .returned (parseV (parseP s)) ∧ Below w.heap.size w w' := by
  by_cases h8 : 802 < s.size
  · have HR := Lib.hid (show parseP s = (false, ⟨#[]⟩, 0, 3, 0) from if_pos h8)
    go_enter Tryd.func14, Tryd.ntmps14
    go_wp2_with fail
    refine bodyPost_ret (v := parseV (false, ⟨#[]⟩, 0, 3, 0)) (by simp [results, Tryd.results14, go_sem]) rfl ⟨ret_val (by rw [HR.out]), ?_⟩
    exact ((((Below.refl w.heap.size w).alloc (Nat.le_refl _) _).alloc (by simp) _).alloc (by simp; omega) _)
  have hb := get_bt s
  have hp01 : pFrom s = 0 ∨ pFrom s = 1 := by unfold pFrom; split <;> simp
  have hfrom : pFrom s = if 0 < s.size ∧ bt s 0 = 45 then 1 else 0 := by
    unfold pFrom
    by_cases e : bt s 0 = 45
    · have : 0 < s.size := by
        by_cases g : 0 < s.size
        · exact g
        · unfold bt at e
          rw [dif_neg g] at e
          exact absurd e (by decide)
      rw [if_pos e, if_pos ⟨this, e⟩]
    · rw [if_neg e, if_neg (fun g => e g.2)]
  have HF := Lib.hid hfrom; clear hfrom
  have HP := Lib.hid hp01; clear hp01
  go_enter Tryd.func14, Tryd.ntmps14
  go_upto_region 5 with fail
  go_cut [27] (fun s27 wx => s27 = .bool (decide (pFrom s = 1)) ∧ wx = ((w.alloc (.cells #[.bool false, .string ⟨#[]⟩, .int .i64 0] 23)).alloc (.cells #[.int .i64 0, .int .i64 0] 27)).alloc (.cells #[.bool false, .string ⟨#[]⟩, .int .i64 0] 23))
  case first =>
    by_cases h0 : 0 < s.size
    · by_cases h45 : bt s 0 = 45
      · have h45' : (bt s 0 == 45) = true := by simpa using h45
        have HE := Lib.hid (show decide (pFrom s = 1) = true by rw [HF.out, if_pos ⟨h0, h45⟩]; rfl)
        clear h45
        go_wp2_with fail
        go_meet
        case rel => exact ⟨by rw [HE.out], rfl⟩
      · have h45' : (bt s 0 == 45) = false := by simpa using h45
        have HE := Lib.hid (show decide (pFrom s = 1) = false by rw [HF.out, if_neg (fun g => h45 g.2)]; rfl)
        clear h45
        go_wp2_with fail
        go_meet
        case rel => exact ⟨by rw [HE.out], rfl⟩
    · have HE := Lib.hid (show decide (pFrom s = 1) = false by rw [HF.out, if_neg (fun g => h0 g.1)]; rfl)
      go_wp2_with fail
      go_meet
      case rel => exact ⟨by rw [HE.out], rfl⟩
  case rest =>
    obtain ⟨rfl, rfl⟩ := hcut
    go_upto_if 27 with fail
    go_cut [5] (fun s5 wx => s5 = .int .i64 (pFrom s) ∧ wx = ((w.alloc (.cells #[.bool false, .string ⟨#[]⟩, .int .i64 0] 23)).alloc (.cells #[.int .i64 0, .int .i64 0] 27)).alloc (.cells #[.bool false, .string ⟨#[]⟩, .int .i64 0] 23))
    case first =>
      rcases HP.out with hp | hp
      · have HE := Lib.hid hp
        rw [show decide (pFrom s = 1) = false by rw [hp]; rfl]
        clear hp
        go_wp2_with fail
        go_meet
        case rel => exact ⟨by rw [HE.out]; rfl, rfl⟩
      · have HE := Lib.hid hp
        rw [show decide (pFrom s = 1) = true by rw [hp]; rfl]
        clear hp
        go_wp2_with fail
        go_meet
        case rel => exact ⟨by rw [HE.out]; rfl, rfl⟩
    case rest =>
      obtain ⟨rfl, rfl⟩ := hcut
      have hdg := fun W => rDigits_any s (pFrom s) W hs (by rcases HP.out with h | h <;> omega)
      by_cases hn : ndig s (pFrom s) = 0
      · have hd : digAt s (pFrom s) = false := by
          cases e : digAt s (pFrom s) with
          | false => rfl
          | true => have := nd_step e; omega
        have HR := Lib.hid (show parseP s = badP (pFrom s) by
          unfold parseP
          rw [if_neg h8, if_pos hd])
        rw [hn] at hdg
        clear hn hd
        go_wp2_with fail
        refine (hdg _).mono ?_
        rintro e w' ⟨rfl, rfl⟩
        clear hdg
        go_wp2_with fail
        refine bodyPost_ret (v := parseV (badP (pFrom s))) (by simp [badP, results, Tryd.results14, go_sem]) rfl ⟨ret_val (by rw [HR.out]), ?_⟩
        exact ((((Below.refl w.heap.size w).alloc (Nat.le_refl _) _).alloc (by simp) _).alloc (by simp; omega) _)
      · have hd : digAt s (pFrom s) = true := by
          cases e : digAt s (pFrom s) with
          | true => rfl
          | false => exact absurd (nd_stop e) hn
        have hks := (digAt_iff.1 hd).1
        have hn' : ((ndig s (pFrom s) : Int) == 0) = false := by simpa using hn
        go_wp2_with fail
        refine (hdg _).mono ?_
        rintro e w' ⟨rfl, rfl⟩
        clear hdg
        go_upto_if 39 with fail
        go_cut [6] (fun s6 wx => s6 = .int .i64 ((pEnd s : Int) - pFrom s) ∧ wx = ((w.alloc (.cells #[.bool false, .string ⟨#[]⟩, .int .i64 0] 23)).alloc (.cells #[.int .i64 0, .int .i64 0] 27)).alloc (.cells #[.bool false, .string ⟨#[]⟩, .int .i64 0] 23))
        case first =>
          by_cases h48 : bt s (pFrom s) = 48
          · have h48' : (bt s (pFrom s) == 48) = true := by simpa using h48
            have HE := Lib.hid (show pEnd s = pFrom s + 1 by unfold pEnd; rw [if_pos h48])
            clear h48
            go_wp2_with fail
            go_meet
            case rel => exact ⟨congrArg (Value.int .i64) (by have := HE.out; omega), rfl⟩
          · have h48' : (bt s (pFrom s) == 48) = false := by simpa using h48
            have HE := Lib.hid (show pEnd s = pFrom s + ndig s (pFrom s) by unfold pEnd; rw [if_neg h48])
            clear h48
            go_wp2_with fail
            go_meet
            case rel => exact ⟨congrArg (Value.int .i64) (by have := HE.out; omega), rfl⟩
        case rest =>
          obtain ⟨rfl, rfl⟩ := hcut
          obtain ⟨hp1, hp2, _⟩ := pEnd_facts hd
          clear hn hn'
          go_upto_region 12 with fail
          go_cut [7, 8] (fun s7 s8 wx => s7 = .int .i64 (pEnd s) ∧ s8 = .int .i64 0 ∧ wx = ((w.alloc (.cells #[.bool false, .string ⟨#[]⟩, .int .i64 0] 23)).alloc (.cells #[.int .i64 0, .int .i64 0] 27)).alloc (.cells #[.bool false, .string ⟨#[]⟩, .int .i64 0] 23))
          case first =>
            go_wp2_with fail
            go_meet
            case rel => exact ⟨congrArg (Value.int .i64) (by omega), rfl, rfl⟩
          case rest =>
            obtain ⟨rfl, rfl, rfl⟩ := hcut
            go_upto_if 46 with fail
            go_cut [8] (fun s8 wx => s8 = .int .i64 (pScale s) ∧ wx = ((w.alloc (.cells #[.bool false, .string ⟨#[]⟩, .int .i64 0] 23)).alloc (.cells #[.int .i64 0, .int .i64 0] 27)).alloc (.cells #[.bool false, .string ⟨#[]⟩, .int .i64 0] 23) ∧ (pEnd s < s.size → bt s (pEnd s) = 46 ∧ 0 < pScale s ∧ pEnd s + 1 + pScale s = s.size))
            case first =>
              by_cases he : pEnd s < s.size
              · by_cases h46 : bt s (pEnd s) = 46
                · have h46' : (bt s (pEnd s) == 46) = true := by simpa using h46
                  have hps : pScale s = ndig s (pEnd s + 1) := if_pos he
                  have hdg := fun W => rDigits_any s (pEnd s + 1) W hs (by omega)
                  rw [← hps] at hdg
                  rw [show ((pEnd s + 1 : Nat) : Int) = (pEnd s : Int) + 1 by omega] at hdg
                  have hle := nd_le s (pEnd s + 1)
                  rw [← hps] at hle
                  have hle2 : pScale s ≤ s.size := by omega
                  clear hps
                  by_cases h0 : pScale s = 0
                  · have HR := Lib.hid (show parseP s = badP (pEnd s + 1) by
                      unfold parseP
                      rw [if_neg h8, if_neg (by rw [hd]; simp), if_neg (fun g => g.2 h46), if_pos ⟨he, .inl h0⟩, h0])
                    rw [h0] at hdg
                    clear h46 h0 hle
                    go_wp2_with fail
                    refine (hdg _).mono ?_
                    rintro e w' ⟨rfl, rfl⟩
                    clear hdg
                    go_wp2_with fail
                    refine bodyPost_ret (v := parseV (badP (pEnd s + 1))) (by simp [badP, results, Tryd.results14, go_sem]) rfl ⟨ret_val (by rw [HR.out]), ?_⟩
                    exact ((((Below.refl w.heap.size w).alloc (Nat.le_refl _) _).alloc (by simp) _).alloc (by simp; omega) _)
                  · have h0' : ((pScale s : Int) == 0) = false := by simpa using h0
                    by_cases hlt : pEnd s + 1 + pScale s < s.size
                    · have HR := Lib.hid (show parseP s = badP (pEnd s + 1 + pScale s) by
                        unfold parseP
                        rw [if_neg h8, if_neg (by rw [hd]; simp), if_neg (fun g => g.2 h46), if_pos ⟨he, .inr hlt⟩])
                      clear h46 h0 hle
                      go_wp2_with fail
                      refine (hdg _).mono ?_
                      rintro e w' ⟨rfl, rfl⟩
                      clear hdg
                      go_wp2_with fail
                      refine bodyPost_ret (v := parseV (badP (pEnd s + 1 + pScale s))) (by simp [badP, results, Tryd.results14, go_sem]) rfl ⟨ret_val (by rw [HR.out]), ?_⟩
                      exact ((((Below.refl w.heap.size w).alloc (Nat.le_refl _) _).alloc (by simp) _).alloc (by simp; omega) _)
                    · have HE := Lib.hid (show pEnd s < s.size → bt s (pEnd s) = 46 ∧ 0 < pScale s ∧ pEnd s + 1 + pScale s = s.size from fun _ => ⟨h46, by omega, by omega⟩)
                      clear h46 h0 hle
                      go_wp2_with fail
                      refine (hdg _).mono ?_
                      rintro e w' ⟨rfl, rfl⟩
                      clear hdg
                      go_wp2_with fail
                      go_meet
                      case rel => exact ⟨rfl, rfl, HE.out⟩
                · have h46' : (bt s (pEnd s) == 46) = false := by simpa using h46
                  have HR := Lib.hid (show parseP s = badP (pEnd s) by
                    unfold parseP
                    rw [if_neg h8, if_neg (by rw [hd]; simp), if_pos ⟨he, h46⟩])
                  clear h46
                  go_wp2_with fail
                  refine bodyPost_ret (v := parseV (badP (pEnd s))) (by simp [badP, results, Tryd.results14, go_sem]) rfl ⟨ret_val (by rw [HR.out]), ?_⟩
                  exact ((((Below.refl w.heap.size w).alloc (Nat.le_refl _) _).alloc (by simp) _).alloc (by simp; omega) _)
              · have HE := Lib.hid (show pScale s = 0 from if_neg he)
                go_wp2_with fail
                go_meet
                case rel => exact ⟨by rw [HE.out]; rfl, rfl, fun g => absurd g he⟩
            case rest =>
              obtain ⟨rfl, rfl, h2⟩ := hcut
              have hbytes := parse_bytes hd h2
              have HBY := Lib.hid hbytes; clear hbytes
              have htext := low_text hd (fun g => ⟨(h2 g).1, (h2 g).2.2⟩)
              have HT := Lib.hid htext; clear htext
              have hAD := pText_dig hd (fun g => (h2 g).2.2)
              have HAD := Lib.hid hAD; clear hAD
              have HR := Lib.hid (show parseP s = if pFrom s = 1 ∧ dval (pText s) = 0 then badP 0 else ((madeR (pFrom s == 1) (dval (pText s)) (pScale s)).1, (madeR (pFrom s == 1) (dval (pText s)) (pScale s)).2.1, (madeR (pFrom s == 1) (dval (pText s)) (pScale s)).2.2.1, (madeR (pFrom s == 1) (dval (pText s)) (pScale s)).2.2.2, 0) by
                unfold parseP
                rw [if_neg (by omega), if_neg (by rw [hd]; simp), if_neg (fun g => g.2 (h2 g.1).1), if_neg (fun g => by have := h2 g.1; omega)])
              clear hd h2 hp1 hp2
              obtain ⟨i0, hi, hz0, hz1, hz2⟩ := info_parts infoInt
              go_upto_region 19 with fail
              have hz : (((w.alloc (.cells #[.bool false, .string ⟨#[]⟩, .int .i64 0] 23)).alloc (.cells #[.int .i64 0, .int .i64 0] 27)).alloc (.cells #[.bool false, .string ⟨#[]⟩, .int .i64 0] 23)).heap.size = w.heap.size + 3 := by simp
              have hB0 : Below w.heap.size w (((w.alloc (.cells #[.bool false, .string ⟨#[]⟩, .int .i64 0] 23)).alloc (.cells #[.int .i64 0, .int .i64 0] 27)).alloc (.cells #[.bool false, .string ⟨#[]⟩, .int .i64 0] 23)) := (((Below.refl w.heap.size w).alloc (Nat.le_refl _) _).alloc (by simp) _).alloc (by simp; omega) _
              have hc : ∀ W' : World, Below (w.heap.size + 3) (((w.alloc (.cells #[.bool false, .string ⟨#[]⟩, .int .i64 0] 23)).alloc (.cells #[.int .i64 0, .int .i64 0] 27)).alloc (.cells #[.bool false, .string ⟨#[]⟩, .int .i64 0] 23)) W' → w.heap.size + 3 ≤ W'.heap.size ∧ W'.cell? ⟨w.heap.size, 0, none⟩ = some (.bool false) ∧ W'.cell? ⟨w.heap.size, 1, none⟩ = some (.string ⟨#[]⟩) ∧ W'.cell? ⟨w.heap.size, 2, none⟩ = some (.int .i64 0) ∧
                  W'.cell? ⟨w.heap.size + 1, 0, none⟩ = some (.int .i64 0) ∧ W'.cell? ⟨w.heap.size + 1, 1, none⟩ = some (.int .i64 0) ∧
                  W'.cell? ⟨w.heap.size + 1 + 1, 0, none⟩ = some (.bool false) ∧ W'.cell? ⟨w.heap.size + 1 + 1, 1, none⟩ = some (.string ⟨#[]⟩) ∧ W'.cell? ⟨w.heap.size + 1 + 1, 2, none⟩ = some (.int .i64 0) ∧
                  W'.frozen? ⟨w.heap.size, 0, none⟩ = false ∧ W'.frozen? ⟨w.heap.size, 1, none⟩ = false ∧ W'.frozen? ⟨w.heap.size, 2, none⟩ = false ∧ W'.frozen? ⟨w.heap.size + 1, 0, none⟩ = false ∧ W'.frozen? ⟨w.heap.size + 1, 1, none⟩ = false := fun W' hB => by
                have hsz := hB.size
                rw [hz] at hsz
                refine ⟨hsz, (hB.cell (p := ⟨w.heap.size, 0, none⟩) (by simp)).trans (by go_simp), (hB.cell (p := ⟨w.heap.size, 1, none⟩) (by simp)).trans (by go_simp), (hB.cell (p := ⟨w.heap.size, 2, none⟩) (by simp)).trans (by go_simp),
                  (hB.cell (p := ⟨w.heap.size + 1, 0, none⟩) (by simp)).trans (by go_simp), (hB.cell (p := ⟨w.heap.size + 1, 1, none⟩) (by simp)).trans (by go_simp),
                  (hB.cell (p := ⟨w.heap.size + 1 + 1, 0, none⟩) (by simp)).trans (by go_simp), (hB.cell (p := ⟨w.heap.size + 1 + 1, 1, none⟩) (by simp)).trans (by go_simp), (hB.cell (p := ⟨w.heap.size + 1 + 1, 2, none⟩) (by simp)).trans (by go_simp),
                  (hB.frozen (p := ⟨w.heap.size, 0, none⟩) (by simp)).trans (by go_simp), (hB.frozen (p := ⟨w.heap.size, 1, none⟩) (by simp)).trans (by go_simp), (hB.frozen (p := ⟨w.heap.size, 2, none⟩) (by simp)).trans (by go_simp),
                  (hB.frozen (p := ⟨w.heap.size + 1, 0, none⟩) (by simp)).trans (by go_simp), (hB.frozen (p := ⟨w.heap.size + 1, 1, none⟩) (by simp)).trans (by go_simp)⟩
              have HC := Lib.hid hc; clear hc
              generalize ((w.alloc (.cells #[.bool false, .string ⟨#[]⟩, .int .i64 0] 23)).alloc (.cells #[.int .i64 0, .int .i64 0] 27)).alloc (.cells #[.bool false, .string ⟨#[]⟩, .int .i64 0] 23) = W0 at *
              have HZ := Lib.hid hz; clear hz
              have HB0 := Lib.hid hB0; clear hB0
              go_wp2_with fail
              go_loopw [9, 10, 11] (fun v z i wr => ∃ m : Nat, m ≤ s.size ∧ pFrom s ≤ m ∧ i = .int .i64 ((m : Int) - 1) ∧ IntRow (w.heap.size + 3) wr v (lowL (s.data.toList.drop m)) ∧ z = .bool ((lowL (s.data.toList.drop m)).all (· == 0)) ∧ Below (w.heap.size + 3) W0 wr) (fun _ _ i _ => (intOf i + 1).toNat)
              case atStart =>
                have hnil : lowL (s.data.toList.drop s.size) = [] := by
                  rw [List.drop_of_length_le (by rw [← Lib.size_eq]; omega)]; rfl
                exact ⟨s.size, Nat.le_refl _, by omega, rfl, by rw [hnil]; exact IntRow.nil _ _, by rw [hnil]; rfl, Below.refl _ _⟩
              case round =>
                obtain ⟨m, hm, hpm, rfl, hrow, rfl, hB⟩ := hrel
                have hsz2 : w.heap.size + 3 ≤ wr.heap.size := (HC.out _ hB).1
                by_cases hmp : pFrom s = m
                · subst hmp
                  rw [all_zero, HT.out, show rowval (dl (pText s)).reverse = dval (pText s) from rfl]
                  rw [HT.out] at hrow
                  have hlen : (dl (pText s)).reverse.length ≤ 1000000 := by
                    rw [← HT.out]
                    have := lowL_len s (pFrom s)
                    omega
                  have h10 : ∀ d ∈ (dl (pText s)).reverse, d < 10 := fun d hd => dl_lt HAD.out d (by simpa using hd)
                  have hmd := fun b (W : World) hr => rMade_any b u9 (dl (pText s)).reverse (pScale s) (w.heap.size + 3) W h10 hlen hr
                  rw [show rowval (dl (pText s)).reverse = dval (pText s) from rfl] at hmd
                  clear hlen h10
                  generalize hL : (dl (pText s)).reverse = L at *
                  clear hL
                  rcases HP.out with hp | hp
                  · have hfr : ((pFrom s : Int) == 1) = false := by rw [hp]; rfl
                    rw [if_neg (fun g => by have := g.1; omega), show (pFrom s == 1) = false by rw [hp]; rfl] at HR
                    have hmd := hmd false
                    generalize madeR false (dval (pText s)) (pScale s) = r at *
                    by_cases hv : dval (pText s) = 0
                    · rw [decide_eq_true hv]
                      clear hp
                      clear hv
                      go_wp2_with fail
                      refine (hmd wr hrow).mono ?_
                      rintro e w2 ⟨rfl, hB2⟩
                      obtain ⟨z3, c0, c1, c2, c3, c4, _, _, _, f0, f1, f2, f3, f4⟩ := HC.out w2 (hB.trans (hB2.mono hsz2))
                      have hBw : Below w.heap.size w w2 := HB0.out.trans ((hB.trans (hB2.mono hsz2)).mono (by omega))
                      have z0 : w.heap.size < w2.heap.size := by omega
                      have z1 : w.heap.size + 1 < w2.heap.size := by omega
                      clear hmd hrow hB hB2 z3
                      go_wp2_with fail
                      refine bodyPost_ret (v := parseV (r.1, r.2.1, r.2.2.1, r.2.2.2, 0)) (by simp [results, Tryd.results14, go_sem, z0, z1, c0, c1, c2, c3, c4]) rfl ⟨ret_val (by rw [HR.out]), ?_⟩
                      exact below5 hBw rfl
                    · rw [decide_eq_false hv]
                      clear hp
                      clear hv
                      go_wp2_with fail
                      refine (hmd wr hrow).mono ?_
                      rintro e w2 ⟨rfl, hB2⟩
                      obtain ⟨z3, c0, c1, c2, c3, c4, _, _, _, f0, f1, f2, f3, f4⟩ := HC.out w2 (hB.trans (hB2.mono hsz2))
                      have hBw : Below w.heap.size w w2 := HB0.out.trans ((hB.trans (hB2.mono hsz2)).mono (by omega))
                      have z0 : w.heap.size < w2.heap.size := by omega
                      have z1 : w.heap.size + 1 < w2.heap.size := by omega
                      clear hmd hrow hB hB2 z3
                      go_wp2_with fail
                      refine bodyPost_ret (v := parseV (r.1, r.2.1, r.2.2.1, r.2.2.2, 0)) (by simp [results, Tryd.results14, go_sem, z0, z1, c0, c1, c2, c3, c4]) rfl ⟨ret_val (by rw [HR.out]), ?_⟩
                      exact below5 hBw rfl
                  · have hfr : ((pFrom s : Int) == 1) = true := by rw [hp]; rfl
                    by_cases hv : dval (pText s) = 0
                    · rw [if_pos ⟨hp, hv⟩] at HR
                      rw [decide_eq_true hv]
                      clear hp hv hmd
                      obtain ⟨z3, c0, c1, c2, c3, c4, d0, d1, d2, f0, f1, f2, f3, f4⟩ := HC.out wr hB
                      have hBw : Below w.heap.size w wr := HB0.out.trans (hB.mono (by omega))
                      have z0 : w.heap.size < wr.heap.size := by omega
                      have z1 : w.heap.size + 1 < wr.heap.size := by omega
                      clear hrow hB z3
                      go_wp2_with fail
                      refine bodyPost_ret (v := parseV (badP 0)) (by simp [badP, results, Tryd.results14, go_sem, c0, c1, c2, c3, c4]) rfl ⟨ret_val (by rw [HR.out]), ?_⟩
                      exact below5' hBw rfl
                    · rw [if_neg (fun g => hv g.2), show (pFrom s == 1) = true by rw [hp]; rfl] at HR
                      have hmd := hmd true
                      generalize madeR true (dval (pText s)) (pScale s) = r at *
                      rw [decide_eq_false hv]
                      clear hp
                      clear hv
                      go_wp2_with fail
                      refine (hmd wr hrow).mono ?_
                      rintro e w2 ⟨rfl, hB2⟩
                      obtain ⟨z3, c0, c1, c2, c3, c4, _, _, _, f0, f1, f2, f3, f4⟩ := HC.out w2 (hB.trans (hB2.mono hsz2))
                      have hBw : Below w.heap.size w w2 := HB0.out.trans ((hB.trans (hB2.mono hsz2)).mono (by omega))
                      have z0 : w.heap.size < w2.heap.size := by omega
                      have z1 : w.heap.size + 1 < w2.heap.size := by omega
                      clear hmd hrow hB hB2 z3
                      go_wp2_with fail
                      refine bodyPost_ret (v := parseV (r.1, r.2.1, r.2.2.1, r.2.2.2, 0)) (by simp [results, Tryd.results14, go_sem, z0, z1, c0, c1, c2, c3, c4]) rfl ⟨ret_val (by rw [HR.out]), ?_⟩
                      exact below5 hBw rfl
                · obtain ⟨q, rfl⟩ : ∃ q, m = q + 1 := ⟨m - 1, by omega⟩
                  have e1 : ((q + 1 : Nat) : Int) - 1 = (q : Int) := by omega
                  rw [e1]
                  have hq : q < s.size := by omega
                  have hpq : pFrom s ≤ q := by omega
                  rcases HBY.out q hpq hq with h46 | ⟨hd1, hd2⟩
                  · have hlow := low_point s q hq h46
                    have HL := Lib.hid hlow; clear hlow
                    have h46' : (bt s q == 46) = true := by simpa using h46
                    go_wp2_with fail
                    go_roundw
                    case rel => exact ⟨q, by omega, hpq, by go_num, by rw [HL.out]; exact hrow, by rw [HL.out], hB⟩
                    case measure => first | (simp [intOf]; done) | (simp [intOf]; omega)
                  · have hlow := low_dig s q hq hd1
                    have HL := Lib.hid hlow; clear hlow
                    have h46' : (bt s q == 46) = false := by rw [Bool.eq_false_iff]; intro g; have := eq_of_beq g; omega
                    have hown := hrow
                    have hlen := lowL_len s (q + 1)
                    unfold IntRow at hown
                    generalize hL : lowL (s.data.toList.drop (q + 1)) = L at *
                    have HLL := Lib.hid hL; clear hL
                    go_wp2_with (at_builtin; refine wpList_append_own _ rfl _ _ 40 rfl (w.heap.size + 3) 3 i0 (.int .i64 0) 1 8 Tryd.underlying40 hi hz0 hz1 hz2 rfl (by decide) _ _ _ rfl (hown.alloc _) ⟨wr.heap.size, 0, none⟩ 1 1 [.int .i64 (bt s q - 48)] rfl rfl ?c1 ?c2 ?c3 ?c4 ?c5 ?_)
                    case c1 => exact cell_one_new _ _ _
                    case c2 => simp [Value.oneCell']
                    case c3 => unfold maxLen; omega
                    case c4 => omega
                    case c5 => simp; omega
                    intro v' w1 hown' hgrow hne
                    have hB' := (hB.alloc hsz2 (.cells #[.int .i64 (bt s q - 48)] 3)).grown hgrow (by simp; omega) hrow.own
                    have hrow' : IntRow (w.heap.size + 3) w1 v' (lowL (s.data.toList.drop q)) := by
                      rw [HL.out]
                      exact IntRow.snoc (by omega) hown'
                    clear hne hown' hgrow hown
                    have hzz : (lowL (s.data.toList.drop q)).all (· == 0) = (L.all (· == 0) && (bt s q == 48)) := by
                      rw [HL.out, List.all_append]
                      congr 1
                      rw [Bool.eq_iff_iff]
                      simp
                      omega
                    have HZZ := Lib.hid hzz; clear hzz
                    generalize L.all (· == 0) = zb at *
                    cases zb with
                    | true =>
                      by_cases h48 : bt s q = 48
                      · have h48' : (bt s q == 48) = true := by simpa using h48
                        have HQ := Lib.hid (show (lowL (s.data.toList.drop q)).all (· == 0) = true by rw [HZZ.out, h48']; rfl)
                        clear h48
                        go_wp2_with fail
                        go_roundw
                        case rel => exact ⟨q, by omega, hpq, by go_num, hrow', by rw [HQ.out], hB'⟩
                        case measure => first | (simp [intOf]; done) | (simp [intOf]; omega)
                      · have h48' : (bt s q == 48) = false := by simpa using h48
                        have HQ := Lib.hid (show (lowL (s.data.toList.drop q)).all (· == 0) = false by rw [HZZ.out, h48']; rfl)
                        clear h48
                        go_wp2_with fail
                        go_roundw
                        case rel => exact ⟨q, by omega, hpq, by go_num, hrow', by rw [HQ.out], hB'⟩
                        case measure => first | (simp [intOf]; done) | (simp [intOf]; omega)
                    | false =>
                      have HQ := Lib.hid (show (lowL (s.data.toList.drop q)).all (· == 0) = false by rw [HZZ.out]; rfl)
                      go_wp2_with fail
                      go_roundw
                      case rel => exact ⟨q, by omega, hpq, by go_num, hrow', by rw [HQ.out], hB'⟩
                      case measure => first | (simp [intOf]; done) | (simp [intOf]; omega)
end Go.Proofs.YtgccppilhbannaaDoor
