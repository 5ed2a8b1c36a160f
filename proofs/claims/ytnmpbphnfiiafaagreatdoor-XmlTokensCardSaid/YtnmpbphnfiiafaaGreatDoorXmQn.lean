/-
  The document's answer: what stands around; what the open elements hold.
-/
import Derived.Test.YtnmpbphnfiiafaaGreatDoorXmZm
import Derived.Test.YtnmpbphnfiiafaaGreatDoorXmQg
namespace Go.Proofs.YtnmpbphnfiiafaaGreatDoor
open Go.RowKit Go.PlainAid

theorem no_lt_cmt {t : ByteArray} {P : Nat} (h : bt t P ≠ 60) : isCmt t P = false ∧ wdAt t P [60, 47] = false := by
  have : (bt t P == 60) = false := by simpa using h
  unfold isCmt
  simp only [wdAt, this, Bool.false_and, and_self]
theorem br_slice {lo : Nat} {w : World} {v : Value} {l : List UInt8} (h : Br lo w v l) : ∃ a n c, v = .slice a n c := by
  obtain ⟨a, c, e⟩ := h.form
  exact ⟨a, _, c, e⟩
/-- A text's bytes put behind a row of bytes, in a region that draws its order. -/
theorem step_str {ops : Array Oper} {o : Oper} {a : Act} {K : Act → World → Prop} {Q : Exit → Act → World → Prop} {EE : Prop} {w : World} (hgd : o.guard = none) (sl x : Operand)
    (ho : o.op = .call { callee := .builtin .append, args := #[sl, x], argTypes := #[60, 9] })
    (base : Nat) (v : Value) (l : List UInt8) (hs : a.eval sl = v) (hrow : Br base w v l) (s : ByteArray) (hx : a.eval x = .string s) (h63 : l.length + s.size ≤ maxLen) (hbytes : l.length + s.size ≤ 140737488355328) (hbase : base ≤ w.heap.size)
    (h : ∀ v' w', Br base w' v' (l ++ s.data.toList) → w.grownBy w' v.ownBlock → K (a.put o.dst v') w') : if Region.wanted o (yielded ops a.tmps) = true then Oper.wp Tryz.prog o a w K Q else EE := by
  have hw : Region.wanted o (yielded ops a.tmps) = true := by simp [Region.wanted, hgd]
  rw [if_pos hw]
  obtain ⟨i0, hi, hz0, hz1, hz2⟩ := info_parts binfo
  have hown : w.ownsRow base 5 1 v l.length (Lib.byteCells l) := hrow
  obtain ⟨v', w', hr, h2, h3, h4⟩ := Lib.run_append_own_string (P := Tryz.prog) w base 60 9 o.type 5 i0 Tryz.underlying60 Tryz.underlying9 hi hz0 hz1 hz2 v l.length _ hown s h63 hbytes hbase
  unfold Oper.wp execOp
  simp only [ho, resolve, invoke, builtin, Sem.run_bind, Sem.run_pure, Result.andThen_ok, List.map_toArray, List.map_cons, List.map_nil, hs, hx, hr]
  exact h v' w' (Br.more h2) h3
section
set_option maxRecDepth 100000
set_option maxHeartbeats 16000000
theorem rAround_any {cb : Nat} {s : ByteArray} {at_ : Nat} {c4 c5 c6 c7 : Value} {w : World} (h : Scn cb s at_ 0 0 c4 c5 c6 c7 w) (ha : at_ ≤ s.size) (hz : s.size ≤ 100000000) :
    Calls Tryz.prog 34 #[.pointer (some ⟨cb, 0, none⟩)] w fun en w' => SEnd (miscX s at_) (fun _ => .tuple #[]) cb s c4 c5 c6 c7 w en w' := by
  have HM0 := Lib.hid (h.moved (Below.refl w.heap.size w))
  obtain ⟨R, hR⟩ : ∃ R, miscX s at_ = R := ⟨_, rfl⟩
  rw [hR]
  have HR := Lib.hid hR
  clear h hR
  go_enter Tryz.func34, Tryz.ntmps34
  go_wp2_with fail
  go_loopg [] (s.size + 2) (fun f wx => (∃ p g : Nat, s.size + 2 ≤ f + p ∧ p ≤ s.size ∧ s.size < p + g ∧ R = miscF s g p ∧ ScnM cb s 0 0 c4 c5 c6 c7 w p wx) ∨ (∃ (e : Int) (a q : Nat), e ≠ 0 ∧ q ≤ s.size ∧ R = .bad e a ∧ ScnM cb s e (a : Int) c4 c5 c6 c7 w q wx))
  case atStart => exact .inl ⟨at_, s.size + 1 - at_, by omega, ha, by omega, HR.out.symm, HM0.out⟩
  case round =>
    clear HR HM0
    rcases hrel with ⟨p, g, hg, hp, hgf, hc, hM⟩ | ⟨e, a, q, he, hq, hc, hM⟩
    · obtain ⟨g, rfl⟩ : ∃ k, g = k + 1 := ⟨g - 1, by omega⟩
      have hMd := hM.on (Below.refl _ _).drew
      have HBD := Lib.hid (bad_no hMd.1)
      have HG := Lib.hid (And.intro hg hgf); have HC := Lib.hid hc; have HM := Lib.hid hMd
      have hSd : wr.drew.cell? ⟨cb, 0, none⟩ = some (Value.string s) ∧ wr.drew.cell? ⟨cb, 1, none⟩ = some (Value.int .i64 (p : Int)) ∧ Below wr.heap.size wr wr.drew := ⟨hMd.1.cell0, hMd.1.cell1, (Below.refl _ _).drew⟩
      clear hg hgf hc hM hMd
      by_cases hlt : p < s.size
      · have hI : (p : Int) < s.size := by omega
        have HLT := Lib.hid hlt
        clear hlt
        go_upto_region 0 with fail
        refine wp_region_held_drew (S := fun w' => w'.cell? ⟨cb, 0, none⟩ = some (Value.string s) ∧ w'.cell? ⟨cb, 1, none⟩ = some (Value.int .i64 (p : Int)) ∧ Below wr.heap.size wr w') (by kernel_rfl) (hSd) (fun hHeld => ?_)
        refine tkH 0 hHeld ?_
        refine wpAnyH_ready (rs := [1]) (by kernel_rfl) (by simp) ?_
        refine AllReadyH.cons rfl (fun K hK => ?_) AllReadyH.nil
        go_simp
        go_wp2_with (go_at_call 35; refine HBD.out.mono ?_; rintro en wy ⟨rfl, rfl⟩)
        refine hK.out _ _ (hSd) (fun hHeld => ?_)
        clear hK K
        refine tkH 2 hHeld ?_
        refine tkH 3 hHeld ?_
        refine tkH 4 hHeld ?_
        refine tkH 5 hHeld ?_
        refine tkH 6 hHeld ?_
        refine tkH 7 hHeld ?_
        refine tkH 8 hHeld ?_
        refine tkH 9 hHeld ?_
        refine tkH 10 hHeld ?_
        refine tkH 11 hHeld ?_
        refine tkH 12 hHeld ?_
        refine tkH 13 hHeld ?_
        refine tkH 14 hHeld ?_
        refine wpAnyH_done (by kernel_rfl) ?_ _
        generalize wr.drew = W at *
        clear hHeld hSd HBD
        have hbl := rBlanks_any HM.out.1 hp (by omega)
        obtain ⟨k, hk⟩ : ∃ k, blk s p = k := ⟨_, rfl⟩
        have hkp := blk_ge s p
        have hks := blk_le s p hp
        rw [hk] at hbl hkp hks
        by_cases hb : p < k
        · have HX := Lib.hid (HC.out.trans (miscF_blank (by rw [hk]; exact hb)))
          have hd : decide (p < k) = true := decide_eq_true hb
          rw [hd] at hbl
          have HK := Lib.hid hk; have HB := Lib.hid hb
          clear hk hb hd hkp
          go_wp2_with fail
          refine hbl.mono ?_
          rintro en w' ⟨rfl, hM2⟩
          clear hbl
          have HM2 := Lib.hid (HM.out.next hM2)
          clear hM2
          go_wp2_with fail
          go_roundg (s.size + 2 - k)
          case rel => exact .inl ⟨k, g, by omega, hks, by have := HG.out; have := HB.out; omega, by rw [HX.out, HK.out], HM2.out⟩
          case measure => have := HG.out; have := HB.out; omega
        · have hkp2 : k = p := by omega
          have hd : decide (p < k) = false := decide_eq_false hb
          rw [hd, hkp2] at hbl
          have hnb : ¬ p < blk s p := by rw [hk]; exact hb
          have HNB := Lib.hid hnb
          clear hb hd hkp hkp2 hks hnb hk
          go_wp2_with fail
          refine hbl.mono ?_
          rintro en w2 ⟨rfl, hM2⟩
          clear hbl
          have hi := is_any hM2.1 hp [60, 33, 45, 45] (by decide)
          have hwc : wdAt s p (([60, 33, 45, 45] : List UInt8).map fun c => (c.toNat : Int)) = isCmt s p := rfl
          rw [hwc] at hi
          have HM2 := Lib.hid (HM.out.next hM2)
          clear hM2 hwc
          cases hcm : isCmt s p with
          | false =>
            rw [hcm] at hi
            have HX := Lib.hid (HC.out.trans (miscF_stop HNB.out hcm))
            clear hcm
            go_wp2_with fail
            refine hi.mono ?_
            rintro en w3 ⟨rfl, hB3⟩
            have HM3 := Lib.hid (HM2.out.on hB3)
            clear hB3 hi
            go_wp2_with fail
            first | go_end0 | refine bodyPost_ret (results_none rfl _ _ _) rfl ?_
            rw [HX.out]
            exact ⟨rfl, HM3.out⟩
          | true =>
            rw [hcm] at hi
            have hxc := HC.out.trans (miscF_cmt (f := g) HNB.out hcm)
            have hin : p + 4 ≤ s.size := wdAt_in (l := [60, 33, 45, 45]) hcm (by decide) hp
            have HXC := Lib.hid hxc; have HCM := Lib.hid hcm
            clear hxc hcm
            go_wp2_with fail
            refine hi.mono ?_
            rintro en w3 ⟨rfl, hB3⟩
            have hM3 := HM2.out.on hB3
            have hco := rComment_any hM3.1 hin (by omega)
            have HM3 := Lib.hid hM3
            clear hB3 hi hM3
            go_wp2_with fail
            refine hco.mono ?_
            intro en w4 hE
            clear hco
            unfold SEnd at hE
            cases hcx : cmtX s p with
            | bad ee aa =>
              rw [hcx] at hE
              obtain ⟨hee, ⟨_, rfl⟩, q, hq, hM4⟩ := hE
              have hx := HXC.out
              rw [hcx] at hx
              have HX := Lib.hid (show R = .bad ee aa from hx); have HM4 := Lib.hid (HM3.out.next hM4); have HE := Lib.hid hee
              clear hx hM4 hee hcx
              go_wp2_with fail
              go_roundg 0
              case rel => exact .inr ⟨ee, aa, q, HE.out, hq, HX.out, HM4.out⟩
              case measure => have := HG.out; omega
            | ok q u =>
              rw [hcx] at hE
              obtain ⟨rfl, hM4⟩ := hE
              have hx := HXC.out
              rw [hcx] at hx
              have hqi := cmtX_in hcx HCM.out hp
              have HX := Lib.hid (show R = miscF s g q from hx); have HM4 := Lib.hid (HM3.out.next hM4); have HQ := Lib.hid hqi
              clear hx hM4 hcx hqi
              go_wp2_with fail
              go_roundg (s.size + 2 - q)
              case rel => exact .inl ⟨q, g, by have := HQ.out; omega, HQ.out.2, by have := HG.out; have := HQ.out; omega, HX.out, HM4.out⟩
              case measure => have := HG.out; have := HQ.out; omega
      · obtain rfl : p = s.size := by omega
        have hI : ¬ (s.size : Int) < (s.size : Int) := by omega
        have hnb : ¬ s.size < blk s s.size := by have := blk_le s s.size (Nat.le_refl _); omega
        have hcm : isCmt s s.size = false := (no_lt_cmt (by rw [bt_end s (Nat.le_refl _)]; decide)).1
        have HX := Lib.hid (HC.out.trans (miscF_stop hnb hcm))
        clear hlt hnb hcm
        go_upto_region 0 with fail
        refine wp_region_held_drew (S := fun w' => w'.cell? ⟨cb, 0, none⟩ = some (Value.string s) ∧ w'.cell? ⟨cb, 1, none⟩ = some (Value.int .i64 (s.size : Int)) ∧ Below wr.heap.size wr w') (by kernel_rfl) (hSd) (fun hHeld => ?_)
        refine tkH 0 hHeld ?_
        refine wpAnyH_ready (rs := [1]) (by kernel_rfl) (by simp) ?_
        refine AllReadyH.cons rfl (fun K hK => ?_) AllReadyH.nil
        go_simp
        go_wp2_with (go_at_call 35; refine HBD.out.mono ?_; rintro en wy ⟨rfl, rfl⟩)
        refine hK.out _ _ (hSd) (fun hHeld => ?_)
        clear hK K
        refine tkH 2 hHeld ?_
        refine tkH 3 hHeld ?_
        refine tkH 4 hHeld ?_
        refine tkH 5 hHeld ?_
        refine tkH 6 hHeld ?_
        refine tkH 7 hHeld ?_
        refine tkH 8 hHeld ?_
        refine tkH 9 hHeld ?_
        refine tkH 10 hHeld ?_
        refine tkH 11 hHeld ?_
        refine tkH 12 hHeld ?_
        refine tkH 13 hHeld ?_
        refine tkH 14 hHeld ?_
        refine wpAnyH_done (by kernel_rfl) ?_ _
        clear hHeld hSd HBD
        go_wp2_with fail
        first | go_end0 | refine bodyPost_ret (results_none rfl _ _ _) rfl ?_
        rw [HX.out]
        exact ⟨rfl, HM.out⟩
    · have hMd := hM.on (Below.refl _ _).drew
      have HBD := Lib.hid (bad_yes hMd.1 he)
      have hSd : wr.drew.cell? ⟨cb, 0, none⟩ = some (Value.string s) ∧ wr.drew.cell? ⟨cb, 1, none⟩ = some (Value.int .i64 (q : Int)) ∧ Below wr.heap.size wr wr.drew := ⟨hMd.1.cell0, hMd.1.cell1, (Below.refl _ _).drew⟩
      have HX := Lib.hid hc; have HM := Lib.hid hMd; have HE := Lib.hid he
      clear hc hM hMd he
      go_upto_region 0 with fail
      refine wp_region_held_drew (S := fun w' => w'.cell? ⟨cb, 0, none⟩ = some (Value.string s) ∧ w'.cell? ⟨cb, 1, none⟩ = some (Value.int .i64 (q : Int)) ∧ Below wr.heap.size wr w') (by kernel_rfl) (hSd) (fun hHeld => ?_)
      refine tkH 0 hHeld ?_
      refine wpAnyH_ready (rs := [1]) (by kernel_rfl) (by simp) ?_
      refine AllReadyH.cons rfl (fun K hK => ?_) AllReadyH.nil
      go_simp
      go_wp2_with (go_at_call 35; refine HBD.out.mono ?_; rintro en wy ⟨rfl, rfl⟩)
      refine hK.out _ _ (hSd) (fun hHeld => ?_)
      clear hK K
      refine tkH 2 hHeld ?_
      refine tkH 3 hHeld ?_
      refine skH 4 hHeld ?_
      refine skH 5 hHeld ?_
      refine skH 6 hHeld ?_
      refine skH 7 hHeld ?_
      refine skH 8 hHeld ?_
      refine skH 9 hHeld ?_
      refine skH 10 hHeld ?_
      refine skH 11 hHeld ?_
      refine skH 12 hHeld ?_
      refine skH 13 hHeld ?_
      refine tkH 14 hHeld ?_
      refine wpAnyH_done (by kernel_rfl) ?_ _
      clear hHeld hSd HBD
      go_wp2_with fail
      first | go_end0 | refine bodyPost_ret (results_none rfl _ _ _) rfl ?_
      rw [HX.out]
      exact ⟨HE.out, ⟨(), rfl⟩, q, hq, HM.out⟩
theorem rAround_bad {cb : Nat} {s : ByteArray} {q : Nat} {e a : Int} {c4 c5 c6 c7 : Value} {w : World} (h : Scn cb s q e a c4 c5 c6 c7 w) (he : e ≠ 0) :
    Calls Tryz.prog 34 #[.pointer (some ⟨cb, 0, none⟩)] w fun en w' => en = .returned (.tuple #[]) ∧ Below w.heap.size w w' := by
  have hMd := h.moved (Below.refl w.heap.size w).drew
  have HBD := Lib.hid (bad_yes hMd.1 he)
  have hSd : w.drew.cell? ⟨cb, 0, none⟩ = some (Value.string s) ∧ w.drew.cell? ⟨cb, 1, none⟩ = some (Value.int .i64 (q : Int)) ∧ Below w.heap.size w w.drew := ⟨hMd.1.cell0, hMd.1.cell1, (Below.refl _ _).drew⟩
  clear h hMd he
  go_enter Tryz.func34, Tryz.ntmps34
  go_wp2_with fail
  go_loopg [] 1 (fun f wx => w = wx)
  case atStart => rfl
  case round =>
    subst hrel
    go_upto_region 0 with fail
    refine wp_region_held_drew (S := fun w' => w'.cell? ⟨cb, 0, none⟩ = some (Value.string s) ∧ w'.cell? ⟨cb, 1, none⟩ = some (Value.int .i64 (q : Int)) ∧ Below w.heap.size w w') (by kernel_rfl) (hSd) (fun hHeld => ?_)
    refine tkH 0 hHeld ?_
    refine wpAnyH_ready (rs := [1]) (by kernel_rfl) (by simp) ?_
    refine AllReadyH.cons rfl (fun K hK => ?_) AllReadyH.nil
    go_simp
    go_wp2_with (go_at_call 35; refine HBD.out.mono ?_; rintro en wy ⟨rfl, rfl⟩)
    refine hK.out _ _ (hSd) (fun hHeld => ?_)
    clear hK K
    refine tkH 2 hHeld ?_
    refine tkH 3 hHeld ?_
    refine skH 4 hHeld ?_
    refine skH 5 hHeld ?_
    refine skH 6 hHeld ?_
    refine skH 7 hHeld ?_
    refine skH 8 hHeld ?_
    refine skH 9 hHeld ?_
    refine skH 10 hHeld ?_
    refine skH 11 hHeld ?_
    refine skH 12 hHeld ?_
    refine skH 13 hHeld ?_
    refine tkH 14 hHeld ?_
    refine wpAnyH_done (by kernel_rfl) ?_ _
    go_wp2_with fail
    first | go_end0 | refine bodyPost_ret (results_none rfl _ _ _) rfl ?_
    exact ⟨rfl, hSd.2.2⟩
/-- What the open elements' rest comes to. -/
def RHeld (lo cb : Nat) (s : ByteArray) (w : World) (x : Xr (List Tk)) (en : Ending) (w' : World) : Prop :=
  match x with
  | .bad e a => e ≠ 0 ∧ en = .returned (.tuple #[]) ∧ (∃ q c4 c5 c6 c7, Scn cb s q e (a : Int) c4 c5 c6 c7 w') ∧ KeepX lo cb w w'
  | .ok q out => en = .returned (.tuple #[]) ∧ q ≤ s.size ∧ KeepX lo cb w w' ∧ ∃ ov pv tv c7, Scn cb s q 0 0 ov pv tv c7 w' ∧ OutAt lo w' ov out ∧ lo ≤ w'.heap.size
theorem rHeld_bad {cb : Nat} {s : ByteArray} {q : Nat} {e a : Int} {c4 c6 : Value} {va : Option Addr} {vn vc : Nat} {u7 : Int} {w : World} (h : Scn cb s q e a c4 (.slice va vn vc) c6 (.int .i64 u7) w) (he : e ≠ 0) :
    Calls Tryz.prog 37 #[.pointer (some ⟨cb, 0, none⟩)] w fun en w' => en = .returned (.tuple #[]) ∧ Scn cb s q e a c4 (.slice va vn vc) c6 (.int .i64 (-1)) w' ∧ KeepX w.heap.size cb w w' := by
  have f7 := h.free 7
  have c7 : w.cell? ⟨cb, 7, none⟩ = some (.int .i64 u7) := h.cell7
  have hs := h.set7 (.int .i64 (-1))
  have hk := (KeepX.refl w.heap.size cb w).setCell 7 (.int .i64 (-1))
  generalize hw1 : w.setCell ⟨cb, 7, none⟩ (.int .i64 (-1)) = w1 at *
  have hbd := bad_yes hs he
  have c5 : w1.cell? ⟨cb, 5, none⟩ = some (.slice va vn vc) := hs.cell5
  have HW1 := Lib.hid hw1; have HS := Lib.hid hs; have HK := Lib.hid hk
  clear h he hw1 hs hk
  go_enter Tryz.func37, Tryz.ntmps37
  go_wp2_with fail
  rw [HW1.out]
  go_loopg [] 1 (fun f wx => w1 = wx)
  case atStart => rfl
  case round =>
    subst hrel
    by_cases hv : 0 < vn
    · have hI : (0 : Int) < (vn : Int) := by omega
      go_wp2_with fail
      refine hbd.mono ?_
      rintro en w' ⟨rfl, rfl⟩
      go_wp2_with fail
      first | go_end0 | refine bodyPost_ret (results_none rfl _ _ _) rfl ?_
      exact ⟨rfl, HS.out, HK.out⟩
    · have hI : ¬ (0 : Int) < (vn : Int) := by omega
      go_wp2_with fail
      first | go_end0 | refine bodyPost_ret (results_none rfl _ _ _) rfl ?_
      exact ⟨rfl, HS.out, HK.out⟩
theorem rHeld_any {lo cb : Nat} {s : ByteArray} {at_ : Nat} {ov pv : Value} {u7 : Int} {out : List Tk} {pile : List ByteArray} {w : World} (h : Scn cb s at_ 0 0 ov pv (.slice none 0 0) (.int .i64 u7) w) (hR : ScR lo ov pv (.slice none 0 0) out pile [] w) (hcb : cb < lo) (ha : at_ ≤ s.size) (hz : s.size ≤ 262144) (hpl : pile.length ≤ 64) (hol : out.length ≤ 2 * at_) :
    Calls Tryz.prog 37 #[.pointer (some ⟨cb, 0, none⟩)] w fun en w' => RHeld lo cb s w (holdF s (s.size + 1 - at_) at_ out pile ⟨#[]⟩ none) en w' := by
  obtain ⟨R, hRR⟩ : ∃ R, holdF s (s.size + 1 - at_) at_ out pile ⟨#[]⟩ none = R := ⟨_, rfl⟩
  rw [hRR]
  have f7 := h.free 7
  have c7 : w.cell? ⟨cb, 7, none⟩ = some (.int .i64 u7) := h.cell7
  have hs := h.set7 (.int .i64 (-1))
  have hr := hR.set hcb 7 (.int .i64 (-1))
  have hk := (KeepX.refl lo cb w).setCell 7 (.int .i64 (-1))
  generalize hw1 : w.setCell ⟨cb, 7, none⟩ (.int .i64 (-1)) = w1 at *
  have HW1 := Lib.hid hw1; have HS := Lib.hid hs; have HK := Lib.hid hk; have HRW := Lib.hid hr; have HRR := Lib.hid hRR; have HCB := Lib.hid hcb
  clear h hw1 hs hk hr hR hRR hcb
  go_enter Tryz.func37, Tryz.ntmps37
  go_wp2_with fail
  rw [HW1.out]
  clear f7 c7
  go_loopg [] (s.size + 2) (fun f wx => (∃ (p g : Nat) (out : List Tk) (pile : List ByteArray) (text : List UInt8) (fr : Option Nat) (ov pv tv : Value), s.size + 2 ≤ f + p ∧ p ≤ s.size ∧ s.size < p + g ∧ pile.length ≤ 64 ∧ out.length ≤ 2 * p ∧ text.length ≤ 4 * p ∧ (fr = none → text = []) ∧ R = holdF s g p out pile ⟨text.toArray⟩ fr ∧ Scn cb s p 0 0 ov pv tv (.int .i64 (frI fr)) wx ∧ ScR lo ov pv tv out pile text wx ∧ KeepX lo cb w wx) ∨ (∃ (e : Int) (a q : Nat) (c4 c6 c7 : Value) (va : Option Addr) (vn vc : Nat), e ≠ 0 ∧ R = .bad e a ∧ Scn cb s q e (a : Int) c4 (.slice va vn vc) c6 c7 wx ∧ KeepX lo cb w wx))
  case atStart => exact .inl ⟨at_, s.size + 1 - at_, out, pile, [], none, ov, pv, _, by omega, ha, by omega, hpl, hol, by simp, fun _ => rfl, HRR.out.symm, HS.out, HRW.out, HK.out⟩
  case round =>
    clear hpl hol HS HRW HK HRR ha HW1
    clear out pile ov pv
    rcases hrel with ⟨p, g, out, pile, text, fr, ov, pv, tv, hg, hp, hgf, hpl, hol, htl, hf0, hres, hsc, hR, hK⟩ | ⟨e, a, q, c4, c6, c7, va, vn, vc, he, hres, hsc, hK⟩
    · obtain ⟨g, rfl⟩ : ∃ k, g = k + 1 := ⟨g - 1, by omega⟩
      obtain ⟨pa, pn, pc, hpv⟩ := hR.pile.form'
      have hpn : pn = pile.length := by
        obtain ⟨_, _, e⟩ := hR.pile.form
        rw [hpv] at e
        injection e
      subst hpv
      have c5 := hsc.cell5
      have hbd := bad_no hsc
      have HG := Lib.hid (And.intro hg hgf); have HB := Lib.hid (And.intro hpl (And.intro hol htl)); have HF0 := Lib.hid hf0; have HRES := Lib.hid hres; have HSC := Lib.hid hsc; have HR := Lib.hid hR; have HK := Lib.hid hK; have HPN := Lib.hid hpn
      clear hg hgf hpl hol htl hf0 hres hsc hR hK
      by_cases hpe : pile = []
      · subst hpe
        have hI : ¬ (0 : Int) < (pn : Int) := by rw [hpn]; simp
        have HX := Lib.hid (HRES.out.trans holdF_done)
        clear hpn
        go_wp2_with fail
        first | go_end0 | refine bodyPost_ret (results_none rfl _ _ _) rfl ?_
        rw [HX.out]
        exact ⟨rfl, hp, HK.out, _, _, _, _, HSC.out, HR.out.out, HR.out.lo⟩
      · have hI : (0 : Int) < (pn : Int) := by
          have : pile.length ≠ 0 := fun e => hpe (List.length_eq_zero_iff.1 e)
          omega
        have HPE := Lib.hid hpe
        have hscd : Scn cb s p 0 0 ov (.slice pa pn pc) tv (.int .i64 (frI fr)) wr.drew := HSC.out
        have hSd : wr.drew.cell? ⟨cb, 0, none⟩ = some (Value.string s) ∧ wr.drew.cell? ⟨cb, 1, none⟩ = some (Value.int .i64 (p : Int)) ∧ Below wr.heap.size wr wr.drew := ⟨hscd.cell0, hscd.cell1, (Below.refl _ _).drew⟩
        clear hpe hscd hpn
        go_wp2_with fail
        refine hbd.mono ?_
        rintro en w' ⟨rfl, rfl⟩
        clear c5 hbd
        have HR1 := Lib.hid (HR.out.on (Below.refl _ _).drew)
        have HK1 := Lib.hid (HK.out.trans (KeepX.of (Below.refl wr.heap.size wr).drew HR.out.lo))
        have HSC1 := Lib.hid (show Scn cb s p 0 0 ov (.slice pa pn pc) tv (.int .i64 (frI fr)) wr.drew from HSC.out)
        clear HR HK HSC
        by_cases hlt : p < s.size
        · have hE : ((p : Int) == (s.size : Int)) = false := by simp; omega
          have hE2 : ¬ (p : Int) = (s.size : Int) := by omega
          have HLT := Lib.hid hlt
          clear hlt
          go_upto_region 5 with fail
          refine wp_region_held_drew (S := fun w' => w'.cell? ⟨cb, 0, none⟩ = some (Value.string s) ∧ w'.cell? ⟨cb, 1, none⟩ = some (Value.int .i64 (p : Int)) ∧ Below wr.heap.size wr w') (by kernel_rfl) (hSd) (fun hHeld => ?_)
          refine tkH 0 hHeld ?_
          refine tkH 1 hHeld ?_
          refine tkH 2 hHeld ?_
          refine tkH 3 hHeld ?_
          refine tkH 4 hHeld ?_
          refine tkH 5 hHeld ?_
          refine tkH 6 hHeld ?_
          refine tkH 7 hHeld ?_
          refine tkH 8 hHeld ?_
          refine tkH 9 hHeld ?_
          refine tkH 10 hHeld ?_
          refine wpAnyH_done (by kernel_rfl) ?_ _
          generalize wr.drew = W at *
          clear hHeld hSd hE hE2
          have hi4 := is_any HSC1.out hp [60, 33, 45, 45] (by decide)
          have hwc : wdAt s p (([60, 33, 45, 45] : List UInt8).map fun c => (c.toNat : Int)) = isCmt s p := rfl
          rw [hwc] at hi4
          clear hwc
          cases hcm : isCmt s p with
          | true =>
            rw [hcm] at hi4
            have hin : p + 4 ≤ s.size := wdAt_in (l := [60, 33, 45, 45]) hcm (by decide) hp
            have hxc := HRES.out.trans (holdF_cmt HPE.out hcm)
            have HXC := Lib.hid hxc; have HCM := Lib.hid hcm
            clear hxc hcm
            go_wp2_with fail
            refine hi4.mono ?_
            rintro en w3 ⟨rfl, hB3⟩
            have hco := rComment_any (HSC1.out.on hB3) hin (by omega)
            have HR3 := Lib.hid (HR1.out.on hB3)
            have HK3 := Lib.hid (HK1.out.trans (KeepX.of hB3 HR1.out.lo))
            clear hB3 hi4
            go_wp2_with fail
            refine hco.mono ?_
            intro en w4 hE
            clear hco
            unfold SEnd at hE
            cases hcx : cmtX s p with
            | bad ee aa =>
              rw [hcx] at hE
              obtain ⟨hee, ⟨_, rfl⟩, q, hq, hM4⟩ := hE
              have hx := HXC.out
              rw [hcx] at hx
              have HX := Lib.hid (show R = .bad ee aa from hx); have HE := Lib.hid hee; have HS4 := Lib.hid hM4.1; have HK4 := Lib.hid (HK3.out.trans (hM4.2.mono HR3.out.lo))
              clear hx hM4 hee hcx
              go_wp2_with fail
              go_roundg 0
              case rel => exact .inr ⟨ee, aa, q, _, _, _, _, _, _, HE.out, HX.out, HS4.out, HK4.out⟩
              case measure => have := HG.out; omega
            | ok q u =>
              rw [hcx] at hE
              obtain ⟨rfl, hM4⟩ := hE
              have hx := HXC.out
              rw [hcx] at hx
              have hqi := cmtX_in hcx HCM.out hp
              have HX := Lib.hid (show R = holdF s g q out pile ⟨text.toArray⟩ fr from hx); have HQ := Lib.hid hqi; have HS4 := Lib.hid hM4.1; have HR4 := Lib.hid (HR3.out.keep hM4.2 HCB.out); have HK4 := Lib.hid (HK3.out.trans (hM4.2.mono HR3.out.lo))
              clear hx hM4 hcx hqi
              go_wp2_with fail
              go_roundg (s.size + 2 - q)
              case rel => exact .inl ⟨q, g, out, pile, text, fr, ov, _, tv, by have := HQ.out; omega, HQ.out.2, by have := HG.out; have := HQ.out; omega, HB.out.1, by have := HB.out.2.1; have := HQ.out; omega, by have := HB.out.2.2; have := HQ.out; omega, HF0.out, HX.out, HS4.out, HR4.out, HK4.out⟩
              case measure => have := HG.out; have := HQ.out; omega
          | false =>
            rw [hcm] at hi4
            have HCM := Lib.hid hcm
            clear hcm
            go_wp2_with fail
            refine hi4.mono ?_
            rintro en w3 ⟨rfl, hB3⟩
            have HSC3 := Lib.hid (HSC1.out.on hB3)
            have HR3 := Lib.hid (HR1.out.on hB3)
            have HK3 := Lib.hid (HK1.out.trans (KeepX.of hB3 HR1.out.lo))
            clear hB3 hi4 HSC1 HR1 HK1
            have hi1 := is_any HSC3.out hp [60] (by decide)
            have hw1 : wdAt s p (([60] : List UInt8).map fun c => (c.toNat : Int)) = (bt s p == 60) := by simp [wdAt]
            rw [hw1] at hi1
            clear hw1
            by_cases h60 : bt s p = 60
            · rw [show (bt s p == 60) = true by simpa using h60] at hi1
              have H60 := Lib.hid h60
              clear h60
              go_wp2_with fail
              refine hi1.mono ?_
              rintro en w4 ⟨rfl, hB4⟩
              have hS4 := HSC3.out.on hB4
              have hR4 := HR3.out.on hB4
              have hte := rTell_any hS4 hR4 HCB.out (by have := HB.out.2.1; omega) HF0.out
              have HK4 := Lib.hid (HK3.out.trans (KeepX.of hB4 HR3.out.lo)); have HRL := Lib.hid hR4.lo
              clear hB4 hi1 hS4 hR4 HSC3 HR3 HK3
              go_wp2_with fail
              refine hte.mono ?_
              intro en w5 hE
              clear hte
              unfold RTell at hE
              cases htx : tellX out ⟨text.toArray⟩ fr with
              | bad ee aa =>
                rw [htx] at hE
                obtain ⟨hee, rfl, ⟨c4, c6, c7, hs5⟩, hK5⟩ := hE
                have hx : R = .bad ee aa := by
                  by_cases h2 : wdAt s p [60, 47] = true
                  · have := HRES.out.trans (holdF_end HPE.out HCM.out h2)
                    rw [htx] at this
                    exact this
                  · have h2' : wdAt s p [60, 47] = false := by simpa using h2
                    have := HRES.out.trans (holdF_beg HPE.out HCM.out h2' H60.out)
                    rw [htx] at this
                    exact this
                have HX := Lib.hid hx; have HE := Lib.hid hee; have HS5 := Lib.hid hs5; have HK5 := Lib.hid (HK4.out.trans hK5)
                have hbd5 := bad_yes hs5 hee
                clear hx hee hs5 hK5 htx
                go_wp2_with fail
                refine hbd5.mono ?_
                rintro en w' ⟨rfl, rfl⟩
                go_wp2_with fail
                first | go_end0 | refine bodyPost_ret (results_none rfl _ _ _) rfl ?_
                rw [HX.out]
                exact ⟨HE.out, rfl, ⟨_, _, _, _, _, HS5.out⟩, HK5.out⟩
              | ok u o2 =>
                rw [htx] at hE
                obtain ⟨rfl, hK5, ov5, hs5, hR5⟩ := hE
                have hbd5 := bad_no hs5
                have hol2 := tellX_ok htx
                have hi2 := is_any hs5 hp [60, 47] (by decide)
                have hw2 : wdAt s p (([60, 47] : List UInt8).map fun c => (c.toNat : Int)) = wdAt s p [60, 47] := rfl
                rw [hw2] at hi2
                have HTX := Lib.hid htx; have HS5 := Lib.hid hs5; have HR5 := Lib.hid hR5; have HK5 := Lib.hid (HK4.out.trans hK5); have HO2 := Lib.hid hol2
                clear htx hs5 hR5 hK5 hol2 hw2 HK4 HRL
                go_wp2_with fail
                refine hbd5.mono ?_
                rintro en w' ⟨rfl, rfl⟩
                clear hbd5
                cases h2 : wdAt s p [60, 47] with
                | true =>
                  rw [h2] at hi2
                  have hin2 : p + 2 ≤ s.size := wdAt_in (l := [60, 47]) h2 (by decide) hp
                  have hx := HRES.out.trans (holdF_end HPE.out HCM.out h2)
                  rw [HTX.out] at hx
                  have HX := Lib.hid hx
                  clear hx h2
                  go_wp2_with fail
                  refine hi2.mono ?_
                  rintro en w6 ⟨rfl, hB6⟩
                  have hen := rEnd_any (HS5.out.on hB6) (HR5.out.on hB6) HCB.out hin2 (by omega) (by have := HO2.out; have := HB.out.2.1; omega) HB.out.1 HPE.out
                  have HK6 := Lib.hid (HK5.out.trans (KeepX.of hB6 HR5.out.lo))
                  clear hB6 hi2
                  go_wp2_with fail
                  refine hen.mono ?_
                  intro en w7 hE
                  clear hen
                  unfold REnd at hE
                  cases hex : endX s p (pile.getLastD ⟨#[]⟩) with
                  | bad ee aa =>
                    rw [hex] at hE
                    obtain ⟨hee, rfl, ⟨q7, c4, x7, n7, z7, c6, c7, hs7⟩, hK7⟩ := hE
                    have hx := HX.out
                    rw [hex] at hx
                    have HXX := Lib.hid (show R = .bad ee aa from hx); have HE := Lib.hid hee; have HS7 := Lib.hid hs7; have HK7 := Lib.hid (HK6.out.trans hK7)
                    clear hx hee hs7 hK7 hex
                    go_wp2_with fail
                    go_roundg 0
                    case rel => exact .inr ⟨ee, aa, q7, _, _, _, _, _, _, HE.out, HXX.out, HS7.out, HK7.out⟩
                    case measure => have := HG.out; omega
                  | ok q nm =>
                    rw [hex] at hE
                    obtain ⟨rfl, hK7, ov7, pv7, hs7, hR7⟩ := hE
                    have hx := HX.out
                    rw [hex] at hx
                    have hqi := endX_in hex hin2
                    have HXX := Lib.hid (show R = holdF s g q (o2 ++ [⟨2, nm, [], ⟨#[]⟩, p⟩]) pile.dropLast ⟨#[]⟩ none from hx); have HS7 := Lib.hid hs7; have HR7 := Lib.hid hR7; have HK7 := Lib.hid (HK6.out.trans hK7); have HQ := Lib.hid hqi
                    clear hx hs7 hR7 hK7 hex hqi
                    go_wp2_with fail
                    go_roundg (s.size + 2 - q)
                    case rel => exact .inl ⟨q, g, _, _, [], none, _, _, _, by have := HQ.out; omega, HQ.out.2, by have := HG.out; have := HQ.out; omega, by rw [List.length_dropLast]; have := HB.out.1; omega, by rw [List.length_append, List.length_singleton]; have := HO2.out; have := HB.out.2.1; have := HQ.out; omega, by simp, fun _ => rfl, HXX.out, HS7.out, HR7.out, HK7.out⟩
                    case measure => have := HG.out; have := HQ.out; omega
                | false =>
                  rw [h2] at hi2
                  have hx := HRES.out.trans (holdF_beg HPE.out HCM.out h2 H60.out)
                  rw [HTX.out] at hx
                  have HX := Lib.hid hx
                  clear hx h2
                  go_wp2_with fail
                  refine hi2.mono ?_
                  rintro en w6 ⟨rfl, hB6⟩
                  have hbe := rBegin_any (HS5.out.on hB6) (HR5.out.on hB6) HCB.out HLT.out (by omega) (by have := HO2.out; have := HB.out.2.1; omega) HB.out.1
                  have HK6 := Lib.hid (HK5.out.trans (KeepX.of hB6 HR5.out.lo)); have HL6 := Lib.hid (HR5.out.on hB6).lo
                  clear hB6 hi2
                  go_wp2_with fail
                  refine hbe.mono ?_
                  intro en w7 hE
                  clear hbe
                  unfold RBeg at hE
                  cases hbx : begX s p pile.length with
                  | bad ee aa =>
                    rw [hbx] at hE
                    obtain ⟨hee, rfl, q7, hq7, hM7⟩ := hE
                    have hx := HX.out
                    rw [hbx] at hx
                    have HXX := Lib.hid (show R = .bad ee aa from hx); have HE := Lib.hid hee; have HS7 := Lib.hid hM7.1; have HK7 := Lib.hid (HK6.out.trans (hM7.2.mono HL6.out))
                    clear hx hee hM7 hbx
                    go_wp2_with fail
                    go_roundg 0
                    case rel => exact .inr ⟨ee, aa, q7, _, _, _, _, _, _, HE.out, HXX.out, HS7.out, HK7.out⟩
                    case measure => have := HG.out; omega
                  | ok q xx =>
                    obtain ⟨nm, sh, al⟩ := xx
                    rw [hbx] at hE
                    obtain ⟨rfl, ov7, pv7, hs7, hR7, hK7⟩ := hE
                    have hx := HX.out
                    rw [hbx] at hx
                    have hqi := begX_in hbx HLT.out
                    have hpn64 := begX_pile hbx
                    have hbl2 := begT_len p nm sh al
                    have HXX := Lib.hid (show R = holdF s g q (o2 ++ begT p nm sh al) (if sh = true then pile else pile ++ [nm]) ⟨#[]⟩ none from hx); have HS7 := Lib.hid hs7; have HR7 := Lib.hid hR7; have HK7 := Lib.hid (HK6.out.trans hK7); have HQ := Lib.hid (And.intro hqi (And.intro hpn64 hbl2))
                    clear hx hs7 hR7 hK7 hbx hqi hpn64 hbl2
                    go_wp2_with fail
                    go_roundg (s.size + 2 - q)
                    case rel => exact .inl ⟨q, g, _, _, [], none, _, _, _, by have := HQ.out.1; omega, HQ.out.1.2, by have := HG.out; have := HQ.out.1; omega, by split <;> (try rw [List.length_append, List.length_singleton]) <;> (have := HB.out.1; have := HQ.out.2.1; omega), by rw [List.length_append]; have := HO2.out; have := HB.out.2.1; have := HQ.out; omega, by simp, fun _ => rfl, HXX.out, HS7.out, HR7.out, HK7.out⟩
                    case measure => have := HG.out; have := HQ.out.1; omega
            · rw [show (bt s p == 60) = false by simpa using h60] at hi1
              have h47 : wdAt s p [60, 47] = false := by
                have : (bt s p == 60) = false := by simpa using h60
                simp only [wdAt, this, Bool.false_and]
              have H60 := Lib.hid h60; have H47 := Lib.hid h47
              clear h60 h47
              go_wp2_with fail
              refine hi1.mono ?_
              rintro en w4 ⟨rfl, hB4⟩
              have HSC4 := Lib.hid (HSC3.out.on hB4)
              have HR4' := Lib.hid (HR3.out.on hB4)
              have HK4 := Lib.hid (HK3.out.trans (KeepX.of hB4 HR3.out.lo))
              clear hB4 hi1 HSC3 HR3 HK3
              have hi3 := is_any HSC4.out hp [93, 93, 62] (by decide)
              have hw3 : wdAt s p (([93, 93, 62] : List UInt8).map fun c => (c.toNat : Int)) = wdAt s p [93, 93, 62] := rfl
              rw [hw3] at hi3
              clear hw3
              cases h93 : wdAt s p [93, 93, 62] with
              | true =>
                rw [h93] at hi3
                have HX := Lib.hid (HRES.out.trans (holdF_bad HPE.out HCM.out H47.out H60.out (.inr h93)))
                clear h93
                go_wp2_with fail
                refine hi3.mono ?_
                rintro en w5 ⟨rfl, hB5⟩
                have hs5 := HSC4.out.on hB5
                have d1 := hs5.cell1
                have hwf := wrong_first hs5 140 (p : Int)
                have HS6 := Lib.hid (hs5.mark 140 (p : Int)); have HK6 := Lib.hid (((HK4.out.trans (KeepX.of hB5 HR4'.out.lo)).setCell 2 (.int .i64 140)).setCell 3 (.int .i64 (p : Int)))
                clear hB5 hi3 hs5
                go_wp2_with fail
                refine hwf.mono ?_
                rintro en w' ⟨rfl, rfl⟩
                clear hwf
                go_wp2_with fail
                go_roundg 0
                case rel => exact .inr ⟨140, p, p, _, _, _, _, _, _, by decide, HX.out, HS6.out, HK6.out⟩
                case measure => have := HG.out; omega
              | false =>
                rw [h93] at hi3
                have hx := HRES.out.trans (holdF_piece HPE.out HCM.out H47.out H60.out (fun hh => hh.elim (fun hh => by have := HLT.out; omega) (fun hh => by rw [h93] at hh; cases hh)))
                have HX := Lib.hid hx
                clear hx h93
                go_wp2_with fail
                refine hi3.mono ?_
                rintro en w5 ⟨rfl, hB5⟩
                have hs5 := HSC4.out.on hB5
                have hr5 := HR4'.out.on hB5
                have hk5 := HK4.out.trans (KeepX.of hB5 HR4'.out.lo)
                clear hB5 hi3 HSC4 HR4' HK4
                obtain ⟨W6, hW6⟩ : ∃ W6, (if frI fr < 0 then w5.setCell ⟨cb, 7, none⟩ (.int .i64 (p : Int)) else w5) = W6 := ⟨_, rfl⟩
                have h6 : Scn cb s p 0 0 ov (.slice pa pn pc) tv (.int .i64 (frI (some (fr.getD p)))) W6 ∧ ScR lo ov (.slice pa pn pc) tv out pile text W6 ∧ KeepX lo cb w W6 := by
                  cases fr with
                  | none =>
                    rw [if_pos (by decide)] at hW6
                    rw [← hW6]
                    exact ⟨hs5.set7 (.int .i64 (p : Int)), hr5.set HCB.out 7 _, hk5.setCell 7 _⟩
                  | some a =>
                    rw [if_neg (by show ¬ ((a : Int) < 0); omega)] at hW6
                    rw [← hW6]
                    exact ⟨hs5, hr5, hk5⟩
                have d7 := hs5.cell7
                have d1 := hs5.cell1
                have f7 := hs5.free 7
                have HS6 := Lib.hid h6.1; have HR6 := Lib.hid h6.2.1; have HK6 := Lib.hid h6.2.2; have HW6 := Lib.hid hW6
                clear hs5 hr5 hk5 h6 hW6
                go_upto_region 2 with fail
                go_cut [20] (fun s20 wx => s20 = .bool (decide (frI fr < 0)) ∧ w5 = wx)
                case first =>
                  go_wp2_with fail
                  go_meet
                  case rel => exact ⟨rfl, rfl⟩
                case rest =>
                obtain ⟨rfl, rfl⟩ := hcut
                go_upto_if 20 with fail
                go_cut [] (fun wx => W6 = wx)
                case first =>
                  by_cases hf : frI fr < 0
                  · have HW := Lib.hid (show w5.setCell ⟨cb, 7, none⟩ (.int .i64 (p : Int)) = W6 by rw [← HW6.out, if_pos hf])
                    clear HW6
                    go_wp2_with fail
                    go_meet
                    case rel => exact HW.out.symm
                  · have HW := Lib.hid (show w5 = W6 by rw [← HW6.out, if_neg hf])
                    clear HW6
                    go_wp2_with fail
                    go_meet
                    case rel => exact HW.out.symm
                case rest =>
                obtain rfl := hcut
                clear d7 d1 f7 HW6
                obtain ⟨ta, tn, tc, htv⟩ : ∃ ta tn tc, tv = .slice ta tn tc := by
                  obtain ⟨ta, tc, e⟩ := HR6.out.text.form
                  exact ⟨ta, _, tc, e⟩
                subst htv
                go_upto_region 4 with fail
                have hs7 : Scn cb s p 0 0 ov (.slice pa pn pc) (.slice ta tn tc) (.int .i64 (frI (some (fr.getD p)))) W6.drew := HS6.out
                have HPC := Lib.hid (rPiece_any hs7 HLT.out (by omega))
                have hS4 : W6.drew.cell? ⟨cb, 6, none⟩ = some (Value.slice ta tn tc) := hs7.cell6
                have HR4 := Lib.hid (show ScR lo ov (.slice pa pn pc) (.slice ta tn tc) out pile text W6.drew from HR6.out.on (Below.refl _ _).drew)
                have HPE := Lib.hid (show ∀ en w5, PcEnd (pieceX s p) cb s ov (.slice pa pn pc) (.slice ta tn tc) (.int .i64 (frI (some (fr.getD p)))) W6.drew en w5 → ∃ (b : ByteArray) (e5 a5 : Int) (q5 : Nat), en = .returned (.string b) ∧ ScnM cb s e5 a5 ov (.slice pa pn pc) (.slice ta tn tc) (.int .i64 (frI (some (fr.getD p)))) W6.drew q5 w5 ∧ b.size ≤ 2000000 ∧ ((e5 = 0 ∧ a5 = 0 ∧ pieceX s p = .ok q5 b) ∨ (∃ ab : Nat, a5 = (ab : Int) ∧ e5 ≠ 0 ∧ pieceX s p = .bad e5 ab)) from fun en w5 hE => by
                  unfold PcEnd at hE
                  cases hpx : pieceX s p with
                  | bad ee aa =>
                    rw [hpx] at hE
                    obtain ⟨hee, hy, q, hq, hM⟩ := hE
                    exact ⟨⟨#[]⟩, ee, aa, q, hy, hM, by decide, .inr ⟨aa, rfl, hee, rfl⟩⟩
                  | ok q b =>
                    rw [hpx] at hE
                    have := piece_in hpx hp
                    exact ⟨b, 0, 0, q, hE.1, hE.2, by omega, .inl ⟨rfl, rfl, rfl⟩⟩)
                have HTL := Lib.hid (show text.length ≤ 2000000 by have := HB.out.2.2; omega)
                clear hs7
                refine wp_region_phase (S := fun w' => w'.cell? ⟨cb, 6, none⟩ = some (Value.slice ta tn tc)) 10 (by kernel_rfl) (hS4) (fun hHeld => ?_)
                refine puP 0 (fun _ => hHeld) ?_
                refine puP 1 (fun _ => hHeld) ?_
                refine puP 2 (fun _ => hHeld) ?_
                refine puP 3 (fun _ => hHeld) ?_
                refine tkP [10] 4 hHeld ?_
                refine puP 5 (fun _ => hHeld) ?_
                refine wpAnyP_ready (rs := [6]) (by kernel_rfl) (by simp) ?_
                refine AllReadyP.cons rfl (fun K hK => ?_) AllReadyP.nil
                go_simp
                go_wp2_with (go_at_call 54; refine HPC.out.mono ?_; intro en w5 hE; obtain ⟨b, e5, a5, q5, rfl, hM5, hbz, hcase⟩ := HPE.out _ _ hE; have hS5 : w5.cell? ⟨cb, 6, none⟩ = some (Value.slice ta tn tc) := hM5.1.cell6; have hR5 : ScR lo ov (.slice pa pn pc) (.slice ta tn tc) out pile text w5 := HR4.out.keep hM5.2 HCB.out)
                refine hK.out _ _ (hS5) (fun hHeld => ?_)
                clear hK K
                refine wpAnyP_ready (rs := [7]) (by kernel_rfl) (by simp) ?_
                refine AllReadyP.cons rfl (fun K hK => ?_) AllReadyP.nil
                (refine step_str rfl _ _ rfl lo (.slice ta tn tc) text rfl hR5.text b rfl (by have := HTL.out; unfold maxLen; omega) (by have := HTL.out; omega) hR5.lo ?_; intro v' w6 hrow6 hg6; obtain ⟨hR6, hB6⟩ := hR5.wrote hrow6 hg6; have hs6 := hM5.1.low HCB.out hB6; have f6 := hs6.free 6; have k6 := hs6.cell6; obtain ⟨a', n', c', rfl⟩ : ∃ a n c, v' = .slice a n c := br_slice hrow6)
                refine hK.out _ _ (k6) (fun hHeld => ?_)
                clear hK K
                refine puP 8 (fun _ => hHeld) ?_
                refine puP 9 (fun _ => hHeld) ?_
                refine wpAnyP_ready (rs := [10]) (by kernel_rfl) (by simp) ?_
                refine AllReadyP.last rfl (by kernel_rfl) (fun K hK => ?_) AllReadyP.nil
                go_simp
                refine hK.out _ _ (trivial) (fun hHeld => ?_)
                clear hK K
                refine wpAnyP_done (by kernel_rfl) ?_ _
                have hs8 := hs6.set6 (.slice a' n' c')
                have hR8 := hR6.set HCB.out 6 (.slice a' n' c')
                have hK8 : KeepX lo cb w (w6.setCell ⟨cb, 6, none⟩ (.slice a' n' c')) := HK6.out.drew.trans (((hM5.2.mono HR4.out.lo).trans (KeepX.of hB6 (Nat.le_refl _))).setCell 6 (.slice a' n' c'))
                have HS8 := Lib.hid hs8; have HR8 := Lib.hid hR8; have HK8 := Lib.hid hK8
                clear hHeld hS4 hS5 hs6 hs8 hR8 hK8 hR6 hB6 hrow6 hg6 f6 k6 hR5 hM5
                rcases hcase with ⟨rfl, rfl, hpx⟩ | ⟨ab, rfl, hee, hpx⟩
                · have hx := HX.out
                  rw [hpx] at hx
                  simp only at hx
                  rw [toA_append] at hx
                  have hpi := piece_in hpx hp
                  have HXX := Lib.hid hx; have HPI := Lib.hid hpi
                  have hbl : b.data.toList.length = b.size := rfl
                  clear hx hpx hpi
                  go_wp2_with fail
                  go_roundg (s.size + 2 - q5)
                  case rel => exact .inl ⟨q5, g, out, pile, text ++ b.data.toList, some (fr.getD p), ov, _, _, by have := HPI.out; omega, HPI.out.2.1, by have := HG.out; have := HPI.out; omega, HB.out.1, by have := HB.out.2.1; have := HPI.out; omega, by rw [List.length_append]; have := HB.out.2.2; have := HPI.out; have h9 : b.data.toList.length = b.size := rfl; omega, (by intro h9; cases h9), HXX.out, HS8.out, HR8.out, HK8.out⟩
                  case measure => have := HG.out; have := HPI.out; omega
                · have hx := HX.out
                  rw [hpx] at hx
                  have HXX := Lib.hid (show R = .bad e5 ab from hx); have HE5 := Lib.hid hee
                  clear hx hpx hee
                  go_wp2_with fail
                  go_roundg 0
                  case rel => exact .inr ⟨e5, ab, q5, _, _, _, _, _, _, HE5.out, HXX.out, HS8.out, HK8.out⟩
                  case measure => have := HG.out; omega
        · obtain rfl : p = s.size := by omega
          have hb0 : bt s s.size = 0 := bt_end s (Nat.le_refl _)
          have hcm := no_lt_cmt (t := s) (P := s.size) (by rw [hb0]; decide)
          have HX := Lib.hid (HRES.out.trans (holdF_bad HPE.out hcm.1 hcm.2 (by rw [hb0]; decide) (.inl (Nat.le_refl _))))
          clear hlt hcm hb0
          go_upto_region 5 with fail
          refine wp_region_held_drew (S := fun w' => w'.cell? ⟨cb, 0, none⟩ = some (Value.string s) ∧ w'.cell? ⟨cb, 1, none⟩ = some (Value.int .i64 (s.size : Int)) ∧ Below wr.heap.size wr w') (by kernel_rfl) (hSd) (fun hHeld => ?_)
          refine tkH 0 hHeld ?_
          refine tkH 1 hHeld ?_
          refine tkH 2 hHeld ?_
          refine tkH 3 hHeld ?_
          refine tkH 4 hHeld ?_
          refine tkH 5 hHeld ?_
          refine tkH 6 hHeld ?_
          refine tkH 7 hHeld ?_
          refine tkH 8 hHeld ?_
          refine tkH 9 hHeld ?_
          refine tkH 10 hHeld ?_
          refine wpAnyH_done (by kernel_rfl) ?_ _
          generalize wr.drew = W at *
          clear hHeld hSd
          have d1 := HSC1.out.cell1
          have hwf := wrong_first HSC1.out 140 (s.size : Int)
          have HS6 := Lib.hid (HSC1.out.mark 140 (s.size : Int)); have HK6 := Lib.hid ((HK1.out.setCell 2 (.int .i64 140)).setCell 3 (.int .i64 (s.size : Int)))
          go_wp2_with fail
          refine hwf.mono ?_
          rintro en w' ⟨rfl, rfl⟩
          clear hwf
          go_wp2_with fail
          go_roundg 0
          case rel => exact .inr ⟨140, s.size, s.size, _, _, _, _, _, _, by decide, HX.out, HS6.out, HK6.out⟩
          case measure => have := HG.out; omega
    · have c5 := hsc.cell5
      have hbd := bad_yes hsc he
      have HX := Lib.hid hres; have HS := Lib.hid hsc; have HK := Lib.hid hK; have HE := Lib.hid he
      clear hres hsc hK he
      by_cases hv : 0 < vn
      · have hI : (0 : Int) < (vn : Int) := by omega
        clear hv
        go_wp2_with fail
        refine hbd.mono ?_
        rintro en w' ⟨rfl, rfl⟩
        go_wp2_with fail
        first | go_end0 | refine bodyPost_ret (results_none rfl _ _ _) rfl ?_
        rw [HX.out]
        exact ⟨HE.out, rfl, ⟨_, _, _, _, _, HS.out⟩, HK.out⟩
      · have hI : ¬ (0 : Int) < (vn : Int) := by omega
        clear hv
        go_wp2_with fail
        first | go_end0 | refine bodyPost_ret (results_none rfl _ _ _) rfl ?_
        rw [HX.out]
        exact ⟨HE.out, rfl, ⟨_, _, _, _, _, HS.out⟩, HK.out⟩
end
end Go.Proofs.YtnmpbphnfiiafaaGreatDoor
