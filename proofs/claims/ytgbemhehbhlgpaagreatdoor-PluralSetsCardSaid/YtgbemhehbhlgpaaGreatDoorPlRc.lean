/-
  Rules for numbers, the document's answer: the tokens of a text.
-/
import Derived.Test.YtgbemhehbhlgpaaGreatDoorPlRb
import Derived.Test.YtgbemhehbhlgpaaGreatDoorPlR
import Derived.Deep.Cut
import Derived.Deep.DeepCutAuto
namespace Go.Proofs.YtgbemhehbhlgpaaGreatDoor
open Go.RowKit Go.PlainAid

def TkE : ETy (ByteArray × Nat) where
  T := 82
  ST := 79
  sz := 2
  bs := 24
  z := .agg #[.string ⟨#[]⟩, .int .i64 0]
  enc := fun x => [.string x.1, .int .i64 x.2]
  hsz := by decide
  hbs := by decide
  hlen := fun _ => rfl
  hz := rfl
  info := by kernel_rfl
  und := Tryz.underlying79
  hone := fun _ => by simp [Value.oneCell']

theorem kd_kind {c : Int} (h64 : c ≠ 64) : (∃ (q : Int → Bool) (K : Int), 0 < K ∧ kdB c = K ∧ q c = true ∧ (∀ d, (kdB d == K) = q d) ∧ ∀ (s : ByteArray) (a : Nat), a < s.size → bt s a = c → tkN s a = spTo q s a - a) ∨
    (kdB c = 0 ∧ ∀ (s : ByteArray) (a : Nat), a < s.size → bt s a = c → tkN s a = if a + 1 < s.size ∧ ((bt s a = 33 ∧ bt s (a + 1) = 61) ∨ (bt s a = 46 ∧ bt s (a + 1) = 46)) then 2 else 1) := by
  by_cases h1 : bDg c = true
  · refine .inl ⟨bDg, 1, by decide, kd_one.2 h1, h1, fun d => ?_, fun s a ha hb => ?_⟩
    · cases hd : bDg d with
      | true => rw [kd_one.2 hd]; rfl
      | false => simpa using fun e => by rw [kd_one.1 e] at hd; cases hd
    · unfold tkN
      rw [if_neg (by omega), hb, if_pos h1]
  · by_cases h2 : bLo c = true
    · refine .inl ⟨bLo, 2, by decide, by unfold kdB; rw [if_neg h1, if_pos h2], h2, fun d => ?_, fun s a ha hb => ?_⟩
      · unfold kdB
        by_cases e1 : bDg d = true
        · have e2 : bLo d = false := by
            have := of_decide_eq_true e1
            exact decide_eq_false (by omega)
          rw [if_pos e1, e2]
          rfl
        · rw [if_neg e1]
          cases e2 : bLo d <;> rfl
      · unfold tkN
        rw [if_neg (by omega), hb, if_neg h1, if_pos h2]
    · refine .inr ⟨by unfold kdB; rw [if_neg h1, if_neg h2], fun s a ha hb => ?_⟩
      unfold tkN
      rw [if_neg (by omega), hb, if_neg h1, if_neg h2]
theorem two_is {s : ByteArray} {a : Nat} {x y : UInt8} (h : a + 2 ≤ s.size) : s.extract a (a + 2) = ⟨#[x, y]⟩ ↔ bt s a = (x.toNat : Int) ∧ bt s (a + 1) = (y.toNat : Int) := by
  have hz : (s.extract a (a + 2)).size = 2 := by rw [size_sub _ _ _ h]; omega
  constructor
  · intro e
    have h0 := bt_sub s a (a + 2) 0 (by omega) h
    have h1 := bt_sub s a (a + 2) 1 (by omega) h
    rw [e] at h0 h1
    rw [Nat.add_zero] at h0
    exact ⟨h0.symm, h1.symm⟩
  · intro ⟨e1, e2⟩
    refine bytes_eq hz fun k hk => ?_
    rw [hz] at hk
    rw [bt_sub _ _ _ _ (by omega) h]
    have hk : k = 0 ∨ k = 1 := by omega
    rcases hk with rfl | rfl
    · exact e1
    · exact e2
theorem tx_nil {s : ByteArray} {a : Nat} (ha : a ≤ s.size) (h : tkN s a = 0) : tx s a = ⟨#[]⟩ := by
  have hz := tx_size ha
  rw [h] at hz
  exact ByteArray.ext (Array.eq_empty_of_size_eq_zero hz)

set_option maxRecDepth 100000 in
set_option maxHeartbeats 4000000 in
theorem rTokens_any (s : ByteArray) (hs : s.size ≤ 1000000) (w : World) : Calls Tryz.prog 35 #[.string s] w fun e w' => ∃ v, e = .returned v ∧ GRow TkE w.heap.size w' v (tks s) ∧ Below w.heap.size w w' := by
  have hb := get_bt s
  have HS := Lib.hid hs
  have hl0 := tks_len s
  have HL0 := Lib.hid hl0
  clear hs hl0
  go_enter Tryz.func35, Tryz.ntmps35
  go_wp2_with fail
  go_loopg [3, 4] (s.size + 1) (fun g s3 s4 wr => ∃ (j a : Nat), s4 = .int .i64 (a : Int) ∧ g + a = s.size + 1 ∧ a ≤ s.size ∧ tkG s a = pos s j ∧ j < (tks s).length ∧ GRow TkE w.heap.size wr s3 ((tks s).take j) ∧ Below w.heap.size w wr)
  case atStart => exact ⟨0, 0, rfl, rfl, Nat.zero_le _, rfl, HL0.out, GRow.nil _ _ _, Below.refl _ _⟩
  case round =>
    obtain ⟨j, a, rfl, hg, ha, hp, hj, hrow, hB⟩ := hrel
    have HG := Lib.hid hg; have HA := Lib.hid ha; have HP := Lib.hid hp; have HJ := Lib.hid hj
    clear hg ha hp hj
    go_wp2_with fail
    go_loopg [4] (s.size + 1 - a) (fun g s4 wx => ∃ b : Nat, s4 = .int .i64 (b : Int) ∧ g + b = s.size + 1 ∧ a ≤ b ∧ b ≤ s.size ∧ tkG s b = pos s j ∧ wr = wx)
    case atStart => exact ⟨a, rfl, by have := HA.out; omega, Nat.le_refl _, HA.out, HP.out, rfl⟩
    case round =>
      obtain ⟨b, rfl, hg, hab, hbs, hp, rfl⟩ := hrel
      have hsz := HS.out
      have i0 : (0 : Int) ≤ b := by omega
      have f1 : IntKind.i64.wrap ((b : Int) + 1) = (b : Int) + 1 := IntWalk.i64_in _ (by omega)
      by_cases hlt : b < s.size
      · have i1 : (b : Int) < s.size := by omega
        have i2 : ¬ (s.size : Int) ≤ b := by omega
        by_cases h32 : bt s b = 32
        · have e32 : (bt s b == 32) = true := by rw [h32]; rfl
          have hgo := tkG_go hlt h32
          rw [hp] at hgo
          have HGO := Lib.hid hgo; have HAB := Lib.hid hab; have HLT := Lib.hid hlt; have HGG := Lib.hid hg
          clear hgo hab hbs hp hg h32 hsz
          go_wp2_with fail
          go_roundg (s.size - b)
          case rel => exact ⟨b + 1, by simp, by have := HGG.out; omega, by have := HAB.out; omega, HLT.out, HGO.out.symm, rfl⟩
          case measure => have := HGG.out; omega
        · have e32 : (bt s b == 32) = false := by simpa using h32
          have hst : tkG s b = b := tkG_stop (fun g => h32 g.2)
          rw [hst] at hp
          by_cases h64 : bt s b = 64
          · have h40 : (bt s b == 64) = true := by rw [h64]; rfl
            have hz : tkN s b = 0 := tkN_zero.2 (.inr h64)
            have hend : (tks s).take j ++ [((⟨#[]⟩ : ByteArray), b)] = tks s := by
              have h1 := tks_end HJ.out
              rw [← hp] at h1
              have h2 := tks_take HJ.out
              rw [← hp, List.take_of_length_le (by have := h1.1 hz; omega)] at h2
              have h3 : tkE s b = ((⟨#[]⟩ : ByteArray), b) := by
                unfold tkE
                rw [tx_nil hbs hz]
              rw [h3] at h2
              exact h2.symm
            have hlen : ((tks s).take j).length ≤ 100000000 := by
              rw [List.length_take]
              have := tks_le s
              omega
            have HE := Lib.hid hend
            clear hst hp hz hend hlt hab hbs hg hsz h64 h32
            go_wp2_with (at_builtin; go_must (refine wpList_snoc_g TkE (x := ((⟨#[]⟩ : ByteArray), b)) rfl _ _ rfl w.heap.size _ ((tks s).take j) rfl (hrow.on ((Below.refl _ _).alloc (Nat.le_refl _) (.cells #[.string ⟨#[]⟩, .int .i64 (b : Int)] 82))) 1 _ rfl (Blk.new _ _ _) hlen (Nat.le_trans hB.size (by simp)) ?_); intro v' w2 hrow2 hg2; have hB2 := (hB.alloc hB.size (.cells #[.string ⟨#[]⟩, .int .i64 (b : Int)] 82)).grown hg2 (by simp; exact Nat.le_trans hB.size (Nat.le_succ _)) (fun k hk => hrow.own k hk))
            go_ret
            rw [HE.out] at hrow2
            exact ⟨_, rfl, hrow2, hB2⟩
          · have h40 : (bt s b == 64) = false := by simpa using h64
            have hkd := rKind_any (bt s b) wr
            have hk := kd_kind h64
            have hmore : 1 ≤ tkN s b := tkN_pos hlt h64
            have hin := tkN_in hbs
            have hjn : j + 1 < (tks s).length := by
              have h1 := tks_end HJ.out
              rw [← hp] at h1
              have := HJ.out
              omega
            have hnx : tkG s (b + tkN s b) = pos s (j + 1) := by
              show nx s b = nx s (pos s j)
              rw [← hp]
            have htake : (tks s).take (j + 1) = (tks s).take j ++ [(s.extract b (b + tkN s b), b)] := by
              rw [tks_take HJ.out, ← hp]
              rfl
            have hlen : ((tks s).take j).length ≤ 100000000 := by
              rw [List.length_take]
              have := tks_le s
              omega
            have HJN := Lib.hid hjn; have HNX := Lib.hid hnx; have HT := Lib.hid htake; have HLT := Lib.hid hlt; have HGG := Lib.hid hg; have HIN := Lib.hid hin; have HMORE := Lib.hid hmore; have HAB := Lib.hid hab; have HBS := Lib.hid hbs; have HSZ := Lib.hid hsz
            clear hst hp hab hjn hnx htake h32 h64 hg
            obtain ⟨tn, htn⟩ : ∃ n, tkN s b = n := ⟨_, rfl⟩
            have HTN := Lib.hid htn
            rcases hk with ⟨q, K, hK0, hKc, hqc, hKq, hkt⟩ | ⟨hKc, hkt⟩
            · have hrun := hkt s b hlt rfl
              rw [hKc] at hkd
              have HRUN := Lib.hid hrun; have HQC := Lib.hid hqc; have HKQ := Lib.hid hKq
              clear hkt hKc hKq hrun hqc hin hmore hlt hbs hsz htn
              go_wp2_with fail
              refine hkd.mono ?_
              rintro e w' ⟨rfl, rfl⟩
              go_upto_if 39 with fail
              go_cut [5] (fun s5 wx => s5 = .int .i64 (tn : Int) ∧ wr = wx)
              case first =>
                go_wp2_with fail
                go_loopg [5] (s.size - b) (fun g s5 wx => ∃ n : Nat, s5 = .int .i64 (n : Int) ∧ g + (b + n) = s.size + 1 ∧ 1 ≤ n ∧ b + n ≤ s.size ∧ spTo q s (b + n) = spTo q s b ∧ wr = wx)
                case atStart => exact ⟨1, rfl, by have := HLT.out; omega, Nat.le_refl _, HLT.out, (spTo_go HLT.out HQC.out).symm, rfl⟩
                case round =>
                  obtain ⟨n, rfl, hg, hn1, hbn, hsp, rfl⟩ := hrel
                  have hsz := HSZ.out
                  have f2 : IntKind.i64.wrap ((b : Int) + n) = (b : Int) + n := IntWalk.i64_in _ (by omega)
                  have f3 : IntKind.i64.wrap ((n : Int) + 1) = (n : Int) + 1 := IntWalk.i64_in _ (by omega)
                  have j1 : (0 : Int) ≤ (b : Int) + n := by omega
                  have j4 : ((b : Int) + n).toNat = b + n := by omega
                  have HG2 := Lib.hid hg
                  by_cases h1 : b + n < s.size
                  · have j3 : (b : Int) + n < s.size := by omega
                    have hk2 := rKind_any (bt s (b + n)) wr
                    have hq := HKQ.out (bt s (b + n))
                    by_cases hqq : q (bt s (b + n)) = true
                    · rw [hqq] at hq
                      have hsp2 : spTo q s (b + (n + 1)) = spTo q s b := by rw [← hsp, spTo_go h1 hqq, Nat.add_assoc]
                      have HSP := Lib.hid hsp2
                      clear hsp hsp2 hqq hg hsz hn1 hbn
                      go_wp2_with fail
                      refine hk2.mono ?_
                      rintro e w' ⟨rfl, rfl⟩
                      go_wp2_with fail
                      go_roundg (s.size - (b + n))
                      case rel => exact ⟨n + 1, by simp, by have := HG2.out; omega, by omega, by omega, HSP.out, rfl⟩
                      case measure => have := HG2.out; omega
                    · have hqf : q (bt s (b + n)) = false := by simpa using hqq
                      rw [hqf] at hq
                      have hst := spTo_stop (p := q) (s := s) (i := b + n) (fun g => hqq g.2)
                      have hnt : n = tn := by have := HRUN.out; have := HTN.out; omega
                      have HNT := Lib.hid hnt
                      clear hsp hqq hqf hst hg hsz hn1 hbn hnt
                      go_wp2_with fail
                      refine hk2.mono ?_
                      rintro e w' ⟨rfl, rfl⟩
                      go_wp2_with fail
                      go_meet
                      case rel => exact ⟨by rw [HNT.out], rfl⟩
                  · have j3 : ¬ (b : Int) + n < s.size := by omega
                    have hst := spTo_stop (p := q) (s := s) (i := b + n) (fun g => h1 g.1)
                    have hnt : n = tn := by have := HRUN.out; have := HTN.out; omega
                    have HNT := Lib.hid hnt
                    clear hsp hst hg hsz hn1 hbn hnt h1
                    go_wp2_with fail
                    go_meet
                    case rel => exact ⟨by rw [HNT.out], rfl⟩
              case rest =>
                obtain ⟨rfl, rfl⟩ := hcut
                have hlt := HLT.out
                have hin := HIN.out
                have hsz := HSZ.out
                rw [HTN.out] at hin
                have f2 : IntKind.i64.wrap ((b : Int) + tn) = (b : Int) + tn := IntWalk.i64_in _ (by omega)
                have j1 : (0 : Int) ≤ (b : Int) + tn := by omega
                have j2 : (b : Int) ≤ (b : Int) + tn := by omega
                have j3 : (b : Int) + tn ≤ s.size := by omega
                have j4 : ((b : Int) + tn).toNat = b + tn := by omega
                have HIN2 := Lib.hid hin
                have ht := HT.out
                rw [HTN.out] at ht
                have HT2 := Lib.hid ht
                obtain ⟨X, hX⟩ : ∃ X, s.extract b (b + tn) = X := ⟨_, rfl⟩
                rw [hX] at ht
                have HT3 := Lib.hid ht
                clear hlt hin hsz ht
                go_wp2_with (at_builtin; go_must (refine wpList_snoc_g TkE (x := (X, b)) rfl _ _ rfl w.heap.size _ ((tks s).take j) rfl (hrow.on ((Below.refl _ _).alloc (Nat.le_refl _) (.cells #[.string X, .int .i64 (b : Int)] 82))) 1 _ rfl (Blk.new _ _ _) hlen (Nat.le_trans hB.size (by simp)) ?_); intro v' w2 hrow2 hg2; have hB2 := (hB.alloc hB.size (.cells #[.string X, .int .i64 (b : Int)] 82)).grown hg2 (by simp; exact Nat.le_trans hB.size (Nat.le_succ _)) (fun k hk => hrow.own k hk))
                rw [← HT3.out] at hrow2
                have hnx := HNX.out
                rw [HTN.out] at hnx
                go_roundg (s.size + 1 - (b + tn))
                case rel => exact ⟨j + 1, b + tn, congrArg (Value.int .i64) (by omega), by have := HIN2.out; omega, HIN2.out, hnx, HJN.out, hrow2, hB2⟩
                case measure => have := HIN2.out; have := HG.out; have := HMORE.out; rw [HTN.out] at this; have := HAB.out; omega
            · have hrun := hkt s b hlt rfl
              rw [hKc] at hkd
              have HRUN := Lib.hid hrun
              clear hkt hKc hrun hin hmore hlt hbs hsz htn
              go_wp2_with fail
              refine hkd.mono ?_
              rintro e w' ⟨rfl, rfl⟩
              go_upto_if 39 with fail
              go_cut [5] (fun s5 wx => s5 = .int .i64 (tn : Int) ∧ wr = wx)
              case first =>
                have hlt := HLT.out
                have hsz := HSZ.out
                have f2 : IntKind.i64.wrap ((b : Int) + 1) = (b : Int) + 1 := IntWalk.i64_in _ (by omega)
                have f3 : IntKind.i64.wrap ((b : Int) + 2) = (b : Int) + 2 := IntWalk.i64_in _ (by omega)
                by_cases h1 : b + 1 < s.size
                · have j0 : (b : Int) + 1 < s.size := by omega
                  have j1 : (0 : Int) ≤ (b : Int) + 2 := by omega
                  have j2 : (b : Int) ≤ (b : Int) + 2 := by omega
                  have j3 : (b : Int) + 2 ≤ s.size := by omega
                  have j4 : ((b : Int) + 2).toNat = b + 2 := by omega
                  have t1 := two_is (s := s) (a := b) (x := 33) (y := 61) (by omega)
                  have t2 := two_is (s := s) (a := b) (x := 46) (y := 46) (by omega)
                  have t1 : s.extract b (b + 2) = ⟨#[33, 61]⟩ ↔ bt s b = 33 ∧ bt s (b + 1) = 61 := t1
                  have t2 : s.extract b (b + 2) = ⟨#[46, 46]⟩ ↔ bt s b = 46 ∧ bt s (b + 1) = 46 := t2
                  by_cases hx : s.extract b (b + 2) = ⟨#[33, 61]⟩
                  · have c1 := tl_yes (l := [33, 61]) hx
                    have hnt : tn = 2 := by rw [← HTN.out, HRUN.out, if_pos ⟨h1, .inl (t1.1 hx)⟩]
                    have HNT := Lib.hid hnt
                    clear t1 t2 hx hnt hlt hsz h1
                    go_wp2_with fail
                    go_meet
                    case rel => exact ⟨by rw [HNT.out]; rfl, rfl⟩
                  · have c1 := tl_no (l := [33, 61]) hx
                    by_cases hx2 : s.extract b (b + 2) = ⟨#[46, 46]⟩
                    · have c2 := tl_yes (l := [46, 46]) hx2
                      have hnt : tn = 2 := by rw [← HTN.out, HRUN.out, if_pos ⟨h1, .inr (t2.1 hx2)⟩]
                      have HNT := Lib.hid hnt
                      clear t1 t2 hx hx2 hnt hlt hsz h1
                      go_wp2_with fail
                      go_meet
                      case rel => exact ⟨by rw [HNT.out]; rfl, rfl⟩
                    · have c2 := tl_no (l := [46, 46]) hx2
                      have hnt : tn = 1 := by
                        rw [← HTN.out, HRUN.out, if_neg (fun g => ?_)]
                        rcases g.2 with g | g
                        · exact hx (t1.2 g)
                        · exact hx2 (t2.2 g)
                      have HNT := Lib.hid hnt
                      clear t1 t2 hx hx2 hnt hlt hsz h1
                      go_wp2_with fail
                      go_meet
                      case rel => exact ⟨by rw [HNT.out]; rfl, rfl⟩
                · have j0 : ¬ (b : Int) + 1 < s.size := by omega
                  have hnt : tn = 1 := by rw [← HTN.out, HRUN.out, if_neg (fun g => h1 g.1)]
                  have HNT := Lib.hid hnt
                  clear hnt hlt hsz h1
                  go_wp2_with fail
                  go_meet
                  case rel => exact ⟨by rw [HNT.out]; rfl, rfl⟩
              case rest =>
                obtain ⟨rfl, rfl⟩ := hcut
                have hlt := HLT.out
                have hin := HIN.out
                have hsz := HSZ.out
                rw [HTN.out] at hin
                have f2 : IntKind.i64.wrap ((b : Int) + tn) = (b : Int) + tn := IntWalk.i64_in _ (by omega)
                have j1 : (0 : Int) ≤ (b : Int) + tn := by omega
                have j2 : (b : Int) ≤ (b : Int) + tn := by omega
                have j3 : (b : Int) + tn ≤ s.size := by omega
                have j4 : ((b : Int) + tn).toNat = b + tn := by omega
                have HIN2 := Lib.hid hin
                have ht := HT.out
                rw [HTN.out] at ht
                have HT2 := Lib.hid ht
                obtain ⟨X, hX⟩ : ∃ X, s.extract b (b + tn) = X := ⟨_, rfl⟩
                rw [hX] at ht
                have HT3 := Lib.hid ht
                clear hlt hin hsz ht
                go_wp2_with (at_builtin; go_must (refine wpList_snoc_g TkE (x := (X, b)) rfl _ _ rfl w.heap.size _ ((tks s).take j) rfl (hrow.on ((Below.refl _ _).alloc (Nat.le_refl _) (.cells #[.string X, .int .i64 (b : Int)] 82))) 1 _ rfl (Blk.new _ _ _) hlen (Nat.le_trans hB.size (by simp)) ?_); intro v' w2 hrow2 hg2; have hB2 := (hB.alloc hB.size (.cells #[.string X, .int .i64 (b : Int)] 82)).grown hg2 (by simp; exact Nat.le_trans hB.size (Nat.le_succ _)) (fun k hk => hrow.own k hk))
                rw [← HT3.out] at hrow2
                have hnx := HNX.out
                rw [HTN.out] at hnx
                go_roundg (s.size + 1 - (b + tn))
                case rel => exact ⟨j + 1, b + tn, congrArg (Value.int .i64) (by omega), by have := HIN2.out; omega, HIN2.out, hnx, HJN.out, hrow2, hB2⟩
                case measure => have := HIN2.out; have := HG.out; have := HMORE.out; rw [HTN.out] at this; have := HAB.out; omega
      · have i1 : ¬ (b : Int) < s.size := by omega
        have i2 : (s.size : Int) ≤ b := by omega
        have hst : tkG s b = b := tkG_stop (fun g => hlt g.1)
        rw [hst] at hp
        have hz : tkN s b = 0 := tkN_zero.2 (.inl hlt)
        have hend : (tks s).take j ++ [((⟨#[]⟩ : ByteArray), b)] = tks s := by
          have h1 := tks_end HJ.out
          rw [← hp] at h1
          have h2 := tks_take HJ.out
          rw [← hp, List.take_of_length_le (by have := h1.1 hz; omega)] at h2
          have h3 : tkE s b = ((⟨#[]⟩ : ByteArray), b) := by
            unfold tkE
            rw [tx_nil hbs hz]
          rw [h3] at h2
          exact h2.symm
        have hlen : ((tks s).take j).length ≤ 100000000 := by
          rw [List.length_take]
          have := tks_le s
          omega
        have HE := Lib.hid hend
        clear hst hp hz hend hlt hab hbs hg hsz
        go_wp2_with (at_builtin; go_must (refine wpList_snoc_g TkE (x := ((⟨#[]⟩ : ByteArray), b)) rfl _ _ rfl w.heap.size _ ((tks s).take j) rfl (hrow.on ((Below.refl _ _).alloc (Nat.le_refl _) (.cells #[.string ⟨#[]⟩, .int .i64 (b : Int)] 82))) 1 _ rfl (Blk.new _ _ _) hlen (Nat.le_trans hB.size (by simp)) ?_); intro v' w2 hrow2 hg2; have hB2 := (hB.alloc hB.size (.cells #[.string ⟨#[]⟩, .int .i64 (b : Int)] 82)).grown hg2 (by simp; exact Nat.le_trans hB.size (Nat.le_succ _)) (fun k hk => hrow.own k hk))
        go_ret
        rw [HE.out] at hrow2
        exact ⟨_, rfl, hrow2, hB2⟩
end Go.Proofs.YtgbemhehbhlgpaaGreatDoor
