/-
  Laws and contracts taken over from earlier texts (cut out by a program of this seat's own, slice.py), as far as this seat needs them.
-/
import Derived.Test.YtgbemhehbhlgpaaGreatDoorPlDi
namespace Go.Proofs.YtgbemhehbhlgpaaGreatDoor
section
open Go.RowKit Go.PlainAid
theorem Ints.cells {w : World} {v : Value} {l : List Nat} (h : Ints w v l) : ∃ a cap, v = .slice a l.length cap ∧ ∀ j, j < l.length → ∃ g o, a = some ⟨g, o, none⟩ ∧ g < w.heap.size ∧ l.length ≤ cap ∧ w.cell? ⟨g, o + j, none⟩ = some (.int .i64 ((l.getD j 0 : Nat) : Int)) := by
  rcases h with ⟨e, a, cap, hv⟩ | ⟨g, o, cap, hv, hg, hc, hm, hcell⟩
  · exact ⟨a, cap, by rw [hv, e]; rfl, fun j hj => by rw [e] at hj; exact absurd hj (by simp)⟩
  · exact ⟨_, cap, hv, fun j hj => ⟨g, o, rfl, hg, hc, by rw [hcell j hj, List.getD_eq_getElem?_getD, List.getElem?_eq_getElem hj]; rfl⟩⟩

theorem take_getD (l : List Nat) (i : Nat) (h : i < l.length) : l.take (i + 1) = l.take i ++ [l.getD i 0] := by
  rw [List.take_succ_eq_append_getElem h, List.getD_eq_getElem?_getD, List.getElem?_eq_getElem h]
  rfl

set_option maxRecDepth 100000 in
set_option maxHeartbeats 1600000 in
theorem rMod_yes {neg : Bool} {ds : ByteArray} {k N : Nat} (hr : rightB neg ds k = true) (hN : 1 ≤ N) (hN2 : N ≤ 9223372036854775807) (w : World) :
    Calls Tryz.prog 73 #[.agg #[.bool neg, .string ds, .int .i64 k], .int .i64 N] w fun e w' => e = .returned (decE (modR ds k N)) ∧ Below w.heap.size w w' := by
  obtain ⟨a1, a2, a3, a4, _, a6⟩ := of_decide_eq_true hr
  have hwh := fun W => rWhole_any N hN hN2 W
  have hby := fun W => rRow_any false (digs N) 0 0 W (digs_dig N) (by
    have h1 := lowD_len (n := N) (m := 20) (by omega) (by decide)
    have hsz : (digs N).size = (lowD N).length := by unfold digs; rw [textL_size, List.length_reverse]
    omega) (by omega) (by omega)
  have hrow := fun W => rRow_any neg ds k k W a6 (by omega) (by omega) (by omega)
  have e0 : ((k : Int) - (k : Int)).toNat = 0 := by omega
  rw [e0] at hrow
  have e00 : ((0 : Int) - (0 : Int)).toNat = 0 := rfl
  rw [e00] at hby
  have y1 := rowOf_lt (digs_dig N) 0
  have y2 : (rowOf (digs N) 0).length ≤ 20 := by
    have h1 := lowD_len (n := N) (m := 20) (by omega) (by decide)
    have hsz : (digs N).size = (lowD N).length := by unfold digs; rw [textL_size, List.length_reverse]
    rw [rowOf_length]
    omega
  have y3 : rowval (rowOf (digs N) 0) = N := by rw [rowval_rowOf, dval_digs]; simp
  have x1 := rowOf_lt a6 0
  have x2 : (rowOf ds 0).length = ds.size := by rw [rowOf_length]; omega
  have x3 : rowval (rowOf ds 0) = dval ds := by rw [rowval_rowOf]; simp
  obtain ⟨R, hR⟩ : ∃ R, modR ds k N = R := ⟨_, rfl⟩
  rw [hR]
  unfold modR at hR
  rw [← x3] at hR
  generalize rowOf (digs N) 0 = Y at *
  generalize rowOf ds 0 = X at *
  obtain ⟨s, hs⟩ : ∃ s, X.length = s := ⟨_, rfl⟩
  have s1 : 1 ≤ s := by omega
  have s4 : s ≤ 400 := by omega
  have HR := Lib.hid hR; have HX9 := Lib.hid x1; have HY9 := Lib.hid y1; have HYV := Lib.hid y3; have HXL := Lib.hid hs
  have hml : ∀ x : Nat, x % N < N := fun x => Nat.mod_lt x (by omega)
  have HML := Lib.hid hml
  clear hR x1 y1 y3 x2 x3 hs hr a6 e0 e00 hml
  go_enter Tryz.func73, Tryz.ntmps73
  have ka := (Blk.new w #[Value.bool neg, .string ds, .int .i64 k] 23).alloc (.cells #[Value.bool false, .string ⟨#[]⟩, .int .i64 0] 23)
  have kr := Blk.new' (w.alloc (.cells #[Value.bool neg, .string ds, .int .i64 k] 23)) #[Value.bool false, .string ⟨#[]⟩, .int .i64 0] 23 (w.heap.size + 1) (by simp)
  have hBw := ((Below.refl w.heap.size w).alloc (Nat.le_refl _) (.cells #[Value.bool neg, .string ds, .int .i64 k] 23)).alloc (by simp) (.cells #[Value.bool false, .string ⟨#[]⟩, .int .i64 0] 23)
  go_upto_region 1 with fail
  generalize (w.alloc (.cells #[Value.bool neg, .string ds, .int .i64 k] 23)).alloc (.cells #[Value.bool false, .string ⟨#[]⟩, .int .i64 0] 23) = W0 at *
  go_wp2_with fail
  refine (hwh _).mono ?_
  rintro e w1 ⟨rfl, hB1⟩
  have ka := ka.on hB1
  have kr := kr.on hB1
  have hBw := hBw.trans (hB1.mono hBw.size)
  clear hwh hB1
  go_wp2_with fail
  refine (hby _).mono ?_
  rintro e w2 ⟨vy, rfl, hyr, hB2⟩
  have hYI := hyr.ints
  have ka := ka.on hB2
  have kr := kr.on hB2
  have hBw := hBw.trans (hB2.mono hBw.size)
  have ca := ka.cell
  clear hby hB2 hyr
  go_wp2_with fail
  refine (hrow _).mono ?_
  rintro e w3 ⟨vx, rfl, hxr, hB3⟩
  have hXI := hxr.ints
  have hYI := hYI.later hB3 (Nat.le_refl _)
  have ka := ka.on hB3
  have kr := kr.on hB3
  have hBw := hBw.trans (hB3.mono hBw.size)
  clear hrow hB3 hxr ca
  obtain ⟨xa, xc, hxf, hxc⟩ := hXI.cells
  rw [HXL.out] at hxf hxc
  subst hxf
  obtain ⟨gx, ox, hxa, hgx, hxcap, _⟩ := hxc 0 (by omega)
  have hxd : ∀ j, j < s → w3.cell? ⟨gx, ox + j, none⟩ = some (.int .i64 ((X.getD j 0 : Nat) : Int)) := fun j hj => by
    obtain ⟨g', o', e1, _, _, h⟩ := hxc j hj
    rw [hxa] at e1
    have e2 := Option.some.inj e1
    obtain ⟨rfl, rfl⟩ : gx = g' ∧ ox = o' := ⟨congrArg Addr.block e2, congrArg Addr.off e2⟩
    exact h
  subst hxa
  have HXC := Lib.hid hxd
  have la := ka.lt
  clear hxc hxd
  obtain ⟨e, he⟩ : ∃ e, min s k = e := ⟨_, rfl⟩
  have HE := Lib.hid he
  clear he
  have i0 : IntKind.i64.wrap ((s : Int) - 1) = (s : Int) - 1 := IntWalk.i64_in _ (by omega)
  go_wp2_with fail
  go_loopg [8, 9] (s - e) (fun g s8 s9 wr => ∃ L : List Nat, e + g ≤ s ∧ s9 = .int .i64 ((e : Int) + g - 1) ∧ Ints wr s8 L ∧ (∀ d ∈ L, d < 10) ∧ L.length + (e + g) = s ∧ rowval L = rowval (X.drop (e + g)) % N ∧ Below w3.heap.size w3 wr)
  case atStart =>
    have he := HE.out
    exact ⟨[], by omega, by congr 1; omega, .inl ⟨rfl, _, _, rfl⟩, by simp, by simp; omega, by rw [show e + (s - e) = s by omega, ← HXL.out, List.drop_length]; simp [rowval], Below.refl _ _⟩
  case round =>
    obtain ⟨L, hg, rfl, hLI, hL9, hLl, hLv, hB⟩ := hrel
    have HL9 := Lib.hid hL9; have HLV := Lib.hid hLv; have HLL := Lib.hid hLl
    have hz := hB.size
    have ca := (ka.later hB la).cell
    obtain ⟨lav, lcv, hlf, hlc⟩ := hLI.cells
    subst hlf
    have HLC := Lib.hid hlc
    clear hL9 hLv hLl hlc
    cases gk with
    | zero =>
      have hex : ¬ (k : Int) ≤ (e : Int) + ((0 : Nat) : Int) - 1 := by have := HE.out; omega
      have hBw5 := hBw.trans (hB.mono hBw.size)
      have lr := kr.lt
      have ka5 := ka.later hB la
      have kr5 := kr.later hB lr
      have hX5 := hXI.later hB (Nat.le_refl _)
      have hw0 : w.heap.size ≤ wr.heap.size := hBw5.size
      clear ka kr hBw hXI hYI hB la lr
      obtain ⟨w5, hw5⟩ : ∃ w5, w5 = wr := ⟨_, rfl⟩
      subst hw5
      have la5 := ka5.lt
      have lr5 := kr5.lt
      go_wp2_with fail
      clear ca
      go_loopg [12, 13] k (fun g s12 s13 wq => ∃ j : Nat, j + g = k ∧ s13 = .int .i64 (j : Int) ∧ IntRow w5.heap.size wq s12 (lowTo X j) ∧ Below w5.heap.size w5 wq)
      case atStart => exact ⟨0, by omega, rfl, IntRow.nil _ _, Below.refl _ _⟩
      case round =>
        obtain ⟨j, hj, rfl, hrow, hB6⟩ := hrel
        have hz6 := hB6.size
        have HJ := Lib.hid hj
        have ca := (ka5.later hB6 la5).cell
        cases gk with
        | zero =>
          have hjk : ¬ j < k := by omega
          have hje : j = k := by omega
          rw [hje] at hrow
          clear hj hje
          go_wp2_with fail
          clear ca
          go_loopg [12, 14] L.length (fun q s12 s14 wq => ∃ t : Nat, t + q = L.length ∧ s14 = .int .i64 (t : Int) ∧ IntRow w5.heap.size wq s12 (lowTo X k ++ L.take t) ∧ Below w5.heap.size w5 wq)
          case atStart => exact ⟨0, by omega, rfl, by rw [List.take_zero, List.append_nil]; exact hrow, hB6⟩
          case round =>
            obtain ⟨t, ht, rfl, hrow, hB7⟩ := hrel
            have hz7 := hB7.size
            have HT := Lib.hid ht
            cases gk with
            | zero =>
              have htl : ¬ t < L.length := by omega
              have hte : t = L.length := by omega
              rw [hte, List.take_of_length_le (Nat.le_refl _)] at hrow
              have hAI := hrow.ints
              have hval : rowval (lowTo X k ++ L) = (rowval X / 10 ^ k) % N * 10 ^ k + rowval X % 10 ^ k := by
                have hp : 0 < 10 ^ k := Nat.pow_pos (by decide)
                have h1 := rowval_split X k
                have h2 := rowval_pad_lt HX9.out k
                have e1 : rowval (X.drop k) = rowval X / 10 ^ k := by rw [h1, Nat.add_mul_div_left _ _ hp, Nat.div_eq_of_lt h2, Nat.zero_add]
                have e2 : rowval (X.take k) = rowval X % 10 ^ k := by rw [h1, Nat.add_mul_mod_self_left, Nat.mod_eq_of_lt h2]
                have e3 : X.drop (e + 0) = X.drop k := by
                  have h3 := HE.out
                  have h4 := HXL.out
                  by_cases hsk : s ≤ k
                  · rw [List.drop_of_length_le (by omega), List.drop_of_length_le (by omega)]
                  · rw [show e + 0 = k by omega]
                rw [rowval_append, lowTo_length, rowval_lowTo, HLV.out, e3, e1, e2, Nat.mul_comm (10 ^ k), Nat.add_comm]
              have h10 : ∀ d ∈ lowTo X k ++ L, d < 10 := fun d hd => by
                rcases List.mem_append.1 hd with h | h
                · exact lowTo_lt HX9.out k d h
                · exact HL9.out d h
              have hmd := fun W v (hv : Ints W v (lowTo X k ++ L)) => rMade_ints false v (lowTo X k ++ L) k W h10 (by rw [List.length_append, lowTo_length]; have := HLL.out; omega) hv
              rw [hval, HR.out] at hmd
              have ca := (ka5.later hB7 la5).cell
              have kr := kr5.later hB7 lr5
              have hBw7 := hBw5.trans (hB7.mono hw0)
              clear ht hte hval h10 hrow
              go_wp2_with fail
              refine (hmd _ _ hAI).mono ?_
              rintro e' w8 ⟨rfl, hB8⟩
              have kr := kr.on hB8
              have hBw8 := hBw7.trans (hB8.mono hBw7.size)
              have cr := kr.cell
              have fr := kr.free
              clear ca hmd
              go_wp2_with fail
              refine bodyPost_ret (v := decE R) ?_ rfl ⟨rfl, ?_⟩
              · simp [results, Tryz.results73, go_sem, cr]
              · repeat (refine Below.setCell ?_ (Nat.le_succ _) _)
                exact hBw8
            | succ q =>
              have htl : t < L.length := by omega
              obtain ⟨gl, ol, hla, hgl, hcap, hc⟩ := HLC.out t htl
              subst hla
              have hc := (hB7.cell (p := ⟨gl, ol + t, none⟩) hgl).trans hc
              obtain ⟨y, hy⟩ : ∃ y, L.getD t 0 = y := ⟨_, rfl⟩
              rw [hy] at hc
              have htk : lowTo X k ++ L.take (t + 1) = (lowTo X k ++ L.take t) ++ [y] := by rw [take_getD L t htl, hy, List.append_assoc]
              have HTK := Lib.hid htk
              have hlen : (lowTo X k ++ L.take t).length ≤ 1000000000000 := by rw [List.length_append, lowTo_length, List.length_take]; have := HLL.out; omega
              have j1 : IntKind.i64.wrap ((t : Int) + 1) = (t : Int) + 1 := IntWalk.i64_in _ (by have := HLL.out; omega)
              clear hy htk ht
              go_wp2_with (at_builtin; go_must (refine wpList_snoc_int rfl _ _ rfl _ _ _ y rfl hrow rfl rfl hlen hB7 (Nat.le_refl _) (Nat.le_refl _) (by omega) ?_); intro v' w8 hrow8 hB8)
              go_roundg q
              case rel => exact ⟨t + 1, by have := HT.out; omega, by push_cast; rfl, by rw [HTK.out]; exact hrow8, hB8⟩
              case measure => omega
        | succ g =>
          have hjk : j < k := by omega
          have hat := rAt_any _ X j wr (hX5.later hB6 (Nat.le_refl _)) (by have := HXL.out; omega) (by omega)
          have hst := lowTo_succ X j
          obtain ⟨y, hy⟩ : ∃ y, X.getD j 0 = y := ⟨_, rfl⟩
          rw [hy] at hat hst
          have HST := Lib.hid hst
          have hlen : (lowTo X j).length ≤ 1000000000000 := by rw [lowTo_length]; omega
          have j1 : IntKind.i64.wrap ((j : Int) + 1) = (j : Int) + 1 := IntWalk.i64_in _ (by omega)
          clear hy hst hj
          go_wp2_with (first
            | (go_at_call 105; (with_reducible refine hat.mono ?_); rintro e' w' ⟨rfl, rfl⟩)
            | (at_builtin; refine wpList_snoc_int rfl _ _ rfl _ _ _ y rfl hrow rfl rfl hlen hB6 (Nat.le_refl _) (Nat.le_refl _) (by omega) ?_; intro v' w8 hrow8 hB8))
          go_roundg g
          case rel => exact ⟨j + 1, by have := HJ.out; omega, by push_cast; rfl, by rw [HST.out]; exact hrow8, hB8⟩
          case measure => omega
    | succ g =>
      obtain ⟨i, hi⟩ : ∃ i, e + g = i := ⟨_, rfl⟩
      rw [show (e : Int) + ((g + 1 : Nat) : Int) - 1 = (i : Int) by omega]
      have his : i < s := by omega
      have hki : (k : Int) ≤ (i : Int) := by have := HE.out; omega
      have hc := (hB.cell (p := ⟨gx, ox + i, none⟩) hgx).trans (HXC.out i his)
      have hx9 := getD_lt HX9.out i
      have hdr := rowval_drop X i (by rw [HXL.out]; exact his)
      obtain ⟨x, hx⟩ : ∃ x, X.getD i 0 = x := ⟨_, rfl⟩
      rw [hx] at hc hx9 hdr
      have HDR := Lib.hid hdr; have HI := Lib.hid hi
      have hll : L.length ≤ 400 := by have := HLL.out; omega
      have hlit := IntRow.lit wr x
      have hB1 : Below wr.heap.size wr (wr.alloc (.cells #[.int .i64 (x : Int)] 3)) := (Below.refl _ _).alloc (Nat.le_refl _) _
      clear hx hdr hi
      go_wp2_with fail
      clear ca hc
      generalize wr.alloc (.cells #[.int .i64 (x : Int)] 3) = w4 at *
      go_loopg [10, 11] L.length (fun q s10 s11 wq => ∃ j : Nat, j + q = L.length ∧ s11 = .int .i64 (j : Int) ∧ IntRow wr.heap.size wq s10 (x :: L.take j) ∧ Below wr.heap.size wr wq)
      case atStart => exact ⟨0, by omega, rfl, hlit, hB1⟩
      case round =>
        obtain ⟨j, hj, rfl, hrow, hB4⟩ := hrel
        have hz4 := hB4.size
        have HJ := Lib.hid hj
        cases gk with
        | zero =>
          have hjl : ¬ j < L.length := by omega
          have hje : j = L.length := by omega
          rw [hje, List.take_of_length_le (Nat.le_refl _)] at hrow
          have hNI := hrow.ints
          have hB5 := hB.trans (hB4.mono hz)
          clear hj hje hrow
          go_wp2_with fail
          go_loopg [10] (x + 10 * rowval L) (fun m s10 wq => ∃ L2 : List Nat, Ints wq s10 L2 ∧ (∀ d ∈ L2, d < 10) ∧ L2.length = L.length + 1 ∧ rowval L2 = m ∧ m % N = (x + 10 * rowval L) % N ∧ Below w3.heap.size w3 wq)
          case atStart => exact ⟨x :: L, hNI, fun d hd => by rcases List.mem_cons.1 hd with h | h; { rw [h]; exact hx9 }; exact HL9.out d h, by simp, rfl, rfl, hB5⟩
          case round =>
            obtain ⟨L2, hI2, h92, hl2, hv2, hm2, hB6⟩ := hrel
            have hz6 := hB6.size
            have hY6 := hYI.later hB6 (Nat.le_refl _)
            have hls := rLess_any _ _ L2 Y wr hI2 hY6 h92 HY9.out (by omega) (by omega)
            by_cases hlt : gk < N
            · have hlb : lessB L2 Y = true := decide_eq_true (by rw [hv2, HYV.out]; exact hlt)
              rw [hlb] at hls
              have hval : rowval L2 = rowval (X.drop (e + g)) % N := by
                rw [hv2, HI.out, HDR.out, ← Nat.mod_eq_of_lt hlt, hm2, HLV.out]
                have e1 : e + (g + 1) = i + 1 := by have := HI.out; omega
                rw [e1, Nat.add_mod x, Nat.mul_mod_mod, ← Nat.add_mod]
              have HVAL := Lib.hid hval; have H92 := Lib.hid h92; have HL2 := Lib.hid hl2
              have i1 : IntKind.i64.wrap ((i : Int) - 1) = (i : Int) - 1 := IntWalk.i64_in _ (by omega)
              clear hlb hval hv2 hm2 h92 hl2
              go_wp2_with fail
              refine hls.mono ?_
              rintro e' w' ⟨rfl, rfl⟩
              go_wp2_with fail
              go_roundg g
              case rel => exact ⟨L2, by have := HI.out; omega, by congr 1; have := HI.out; omega, hI2, H92.out, by rw [HL2.out]; have := HLL.out; omega, HVAL.out, hB6⟩
              case measure => omega
            · have hlb : lessB L2 Y = false := decide_eq_false (by rw [hv2, HYV.out]; exact hlt)
              rw [hlb] at hls
              have hle : rowval Y ≤ rowval L2 := by rw [hv2, HYV.out]; omega
              have hmi := fun W (hx : Ints W u10 L2) (hy : Ints W vy Y) => rMinus_any u10 vy L2 Y W hx hy h92 HY9.out (by omega) (by omega)
              have hsub := subL_all' h92 HY9.out hle
              rw [hv2, HYV.out] at hsub
              have hmod : (gk - N) % N = (x + 10 * rowval L) % N := (Nat.mod_eq_sub_mod (show gk ≥ N by omega)).symm.trans hm2
              have hs9 := subL_lt (b := Y) h92 L2.length
              have hslen := subL_length L2 Y L2.length
              have HSUB := Lib.hid hsub; have HMOD := Lib.hid hmod; have HS9 := Lib.hid hs9; have HSL := Lib.hid hslen; have HL2 := Lib.hid hl2
              clear hlb hle hv2 hm2 h92 hl2 hsub hmod hs9 hslen
              go_wp2_with fail
              refine hls.mono ?_
              rintro e' w' ⟨rfl, rfl⟩
              go_wp2_with fail
              refine (hmi _ hI2 hY6).mono ?_
              rintro e' w7 ⟨v7, rfl, hr7, hB7⟩
              have hI7 := hr7.ints
              have hB7 := hB6.trans (hB7.mono hz6)
              clear hr7 hmi
              go_wp2_with fail
              go_roundg (gk - N)
              case rel => exact ⟨subL L2 Y L2.length, hI7, HS9.out, by rw [HSL.out, HL2.out], HSUB.out, HMOD.out, hB7⟩
              case measure => omega
        | succ r =>
          have hjl : j < L.length := by omega
          obtain ⟨gl, ol, hla, hgl, hcap, hc⟩ := HLC.out j hjl
          subst hla
          have hc := (hB4.cell (p := ⟨gl, ol + j, none⟩) hgl).trans hc
          obtain ⟨y, hy⟩ : ∃ y, L.getD j 0 = y := ⟨_, rfl⟩
          rw [hy] at hc
          have htk : x :: L.take (j + 1) = (x :: L.take j) ++ [y] := by rw [take_getD L j hjl, hy]; rfl
          have HTK := Lib.hid htk
          have hlen : (x :: L.take j).length ≤ 1000000000000 := by simp; omega
          have j1 : IntKind.i64.wrap ((j : Int) + 1) = (j : Int) + 1 := IntWalk.i64_in _ (by omega)
          clear hy htk hj
          go_wp2_with (at_builtin; go_must (refine wpList_snoc_int rfl _ _ rfl _ _ _ y rfl hrow rfl rfl hlen hB4 (Nat.le_refl _) (Nat.le_refl _) (by omega) ?_); intro v' w5 hrow5 hB5)
          go_roundg r
          case rel => exact ⟨j + 1, by have := HJ.out; omega, by push_cast; rfl, by rw [HTK.out]; exact hrow5, hB5⟩
          case measure => omega

end
end Go.Proofs.YtgbemhehbhlgpaaGreatDoor
