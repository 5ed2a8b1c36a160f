/-
  Patterns of dates: the skeleton of a pattern: of, Of, form; the reference's Of.
-/
import Derived.Test.YtbnhfjhhbgmhfaaDoorDpG
import Derived.StillTailTactics
import Derived.Deep.RegionLawGrows
namespace Go.Proofs.YtbnhfjhhbgmhfaaDoor
open Go.RowKit Go.PlainAid

/-- Fields of a skeleton: letters of a rank, no text, a small count. -/
def PSk (l : List PF) : Prop := l.length ≤ 100 ∧ ∀ x ∈ l, x.2.2 = ⟨#[]⟩ ∧ 0 ≤ x.1 ∧ x.1 ≤ 255 ∧ rankB x.1 ≠ 0 ∧ 1 ≤ x.2.1 ∧ x.2.1 ≤ 64
theorem PSk.rows {l : List PF} (h : PSk l) {i : Nat} (hi : i < l.length) : l[i].2.2 = ⟨#[]⟩ ∧ 0 ≤ l[i].1 ∧ l[i].1 ≤ 255 ∧ rankB l[i].1 ≠ 0 ∧ 1 ≤ l[i].2.1 ∧ l[i].2.1 ≤ 64 := h.2 _ (List.getElem_mem hi)
theorem sk_size {l : List PF} (h : PSk l) : ∀ i, i ≤ l.length → (printT (l.take i)).size ≤ i * 64
  | 0, _ => by rw [List.take_zero]; exact Nat.le_refl _
  | i + 1, hi => by
    have ih := sk_size h i (by omega)
    have hr := PSk.rows h (i := i) (by omega)
    rw [printT_next l i (by omega), ByteArray.size_append]
    have hp : (pieceB l[i]).size ≤ 64 := by
      generalize l[i] = x at *
      obtain ⟨b, c, t⟩ := x
      simp only at hr
      obtain ⟨n, rfl⟩ : ∃ n : Nat, c = n := ⟨c.toNat, by omega⟩
      rw [piece_letter hr.1, repB_size]
      omega
    omega

set_option maxRecDepth 100000 in
set_option maxHeartbeats 4000000 in
theorem form_any (v : Value) (l : List PF) (w : World) (hv : PFAt w v l) (hok : PSk l) :
    Calls Tryd.prog 46 #[v] w fun e w' => e = .returned (.string (printT l)) ∧ Below w.heap.size w w' := by
  have HOK := Lib.hid hok
  have hlm := hok.1
  obtain ⟨a, cap, rfl, hlen, hc⟩ := hv
  have HC := Lib.hid hc
  have hfb : IsBld w.heap.size w.heap.size (tc ⟨#[]⟩) (w.alloc (.cells #[.pointer none, .slice none 0 0] 68)) := Lib.fresh_isBuilder _ _ w
  have hGB := (Below.refl w.heap.size w).alloc (Nat.le_refl _) (.cells #[.pointer none, .slice none 0 0] 68)
  have HFB := Lib.hid hfb
  clear hfb hc hok
  go_enter Tryd.func46, Tryd.ntmps46
  go_wp2_with fail
  go_loopg [8] l.length (fun g s8 wr => ∃ i : Nat, s8 = .int .i64 (i : Int) ∧ i + g = l.length ∧ IsBld w.heap.size w.heap.size (tc (printT (l.take i))) wr ∧ Below w.heap.size w wr)
  case atStart => exact ⟨0, rfl, by omega, HFB.out, hGB⟩
  case round =>
    obtain ⟨i, rfl, hg, hbd, hB⟩ := hrel
    have hz := sk_size HOK.out i (by omega)
    have hzB := hB.size
    by_cases hi : i < l.length
    · have hnx := printT_next l i hi
      have HNX := Lib.hid hnx
      obtain ⟨g, off, rfl, hgw, h0, h1, h2⟩ := HC.out i hi
      have hx := PSk.rows HOK.out hi
      generalize l[i] = x at *
      obtain ⟨b, c, t⟩ := x
      simp only at h0 h1 h2 hx
      obtain ⟨ht, hx0, hx1, hr, hc1, hc2⟩ := hx
      obtain ⟨n, rfl⟩ : ∃ n : Nat, c = n := ⟨c.toNat, by omega⟩
      have d0 := (hB.cell (p := ⟨g, _, none⟩) hgw).trans h0
      have d1 := (hB.cell (p := ⟨g, _, none⟩) hgw).trans h1
      have d2 := (hB.cell (p := ⟨g, _, none⟩) hgw).trans h2
      have hgr : g < wr.heap.size := by omega
      have hiI : (i : Int) < l.length := by omega
      have hbd1 := bld_later hbd ((Below.refl wr.heap.size wr).alloc (Nat.le_refl _) (.cells #[.int .u8 b, .int .i64 n, .string t] 43))
      have hB1 := hB.alloc hzB (.cells #[.int .u8 b, .int .i64 n, .string t] 43)
      have HBD := Lib.hid hbd1
      have hws := fun T W hw hz => writeString_any w.heap.size w.heap.size (tc (printT (l.take i))) T W hw hz
      rw [tc_length] at hws
      have hpc := piece_letter (b := b) (n := n) ht
      rw [hpc] at HNX
      have hasc := rank_ascii hr
      have henc := encode_ascii (b := b) (by omega) (by omega)
      have hrp := fun W => repeat_any b n W (by omega)
      have hrz := repB_size n b
      have hrz2 : (repB n b).size ≤ 64 := by omega
      clear hnx h0 h1 h2 hbd hbd1 hpc ht hr hrz
      generalize repB n b = D at *
      go_wp2_with fail
      refine (hrp _).mono ?_
      rintro e w2 ⟨rfl, hB2⟩
      have hbd2 := bld_later HBD.out hB2
      have hB3 := hB1.trans (hB2.mono hB1.size)
      go_wp2_with fail
      refine (hws D _ hbd2 (by omega) hB3.size).mono ?_
      rintro e w3 ⟨rfl, hbd3, hB4⟩
      have hbd4 : IsBld w.heap.size w.heap.size (tc (printT (l.take (i + 1)))) w3 := by rw [HNX.out, tc_append]; exact .inr hbd3
      have HB4 := Lib.hid hbd4
      clear hbd2 hbd3 hbd4
      go_wp2_with fail
      go_roundg (gk - 1)
      case rel => exact ⟨i + 1, by push_cast; rfl, by omega, HB4.out, hB3.trans hB4⟩
      case measure => omega
    · have hie : i = l.length := by omega
      have hP : printT (l.take i) = printT l := by rw [hie, List.take_length]
      rw [hP] at hbd hz
      clear hP hi
      generalize hPe : printT l = P at *
      have HPE := Lib.hid hPe
      clear hPe
      have hbs := Tryd.Builder_String_any w.heap.size w.heap.size P.data.toList wr hbd hzB
      rw [show (⟨P.data.toList.toArray⟩ : ByteArray) = P from rfl] at hbs
      clear hbd
      go_wp2_with fail
      refine hbs.mono ?_
      rintro e w3 ⟨rfl, hB3⟩
      go_wp2_with fail
      go_ret
      exact ⟨congrArg (fun x => Ending.returned (.string x)) HPE.out.symm, hB.trans hB3⟩

/-- append of a field, as one step of a region that draws. -/
theorem step_snoc_pf {ops : Array Oper} {o : Oper} {a : Act} {K : Act → World → Prop} {Q : Exit → Act → World → Prop} {E : Prop} {W0 w : World} {B : Nat} {x : PF} (hgd : o.guard = none) (s y : Operand)
    (ho : o.op = .call { callee := .builtin .append, args := #[s, y], argTypes := #[23, 23] })
    (base : Nat) (v : Value) (l : List PF) (hs : a.eval s = v) (hrow : PFRow base w v l) (q : Nat) (hq : q = w.heap.size) (hx : a.eval y = .slice (some ⟨q, 0, none⟩) 1 1) (hlen : l.length ≤ 1000000000)
    (hB : Below B W0 w) (hb : B ≤ base) (hz : base ≤ w.heap.size)
    (h : ∀ v' w', PFRow base w' v' (l ++ [x]) → Below B W0 w' → (∀ k, k < w.heap.size → v.ownBlock ≠ some k → w'.heap[k]? = w.heap[k]?) → K (a.put o.dst v') w') : if Region.wanted o (yielded ops a.tmps) = true then Oper.wp Tryd.prog o a (w.alloc (.cells #[.int .u8 x.1, .int .i64 x.2.1, .string x.2.2] 43)) K Q else E := by
  have hw : Region.wanted o (yielded ops a.tmps) = true := by simp [Region.wanted, hgd]
  rw [if_pos hw]
  subst hq
  obtain ⟨i0, hi, hz0, hz1, hz2⟩ := info_parts infoPF
  refine wp_append_own _ s y 23 ho base 43 i0 (.agg #[.int .u8 0, .int .i64 0, .string ⟨#[]⟩]) 3 32 Tryd.underlying23 hi hz0 hz1 hz2 rfl (by decide) v l.length _ hs (World.ownsRow.alloc hrow _) ⟨w.heap.size, 0, none⟩ 1 1 (pfC x) hx rfl (fun j u hu => ?_) (by simp [pfC, Value.oneCell']) (by unfold maxLen; omega) (by omega) (by simp; omega) ?_
  · rw [Lib.add_plain, (Blk.new w #[.int .u8 x.1, .int .i64 x.2.1, .string x.2.2] 43).cell, Nat.zero_add]
    simpa [pfC] using hu
  intro v' w' hown' hgrow _
  refine h v' w' (PFRow.snoc hown') ?_ (fun k hk hne => by rw [hgrow.block k (by simp; omega) (fun e => hne e.symm), Lib.alloc_old w _ k hk])
  exact (hB.alloc (by omega) (.cells #[.int .u8 x.1, .int .i64 x.2.1, .string x.2.2] 43)).grown hgrow (by simp; omega) (fun k hk => Nat.le_trans hb (hrow.own k hk))

theorem ofN_len (l : List PF) : ∀ r, (ofN l r).length ≤ r
  | 0 => Nat.le_refl _
  | r + 1 => by
    have ih := ofN_len l r
    show (ofN l r ++ ofOne l (r + 1)).length ≤ r + 1
    rw [List.length_append]
    have : (ofOne l (r + 1)).length ≤ 1 := by
      unfold ofOne
      split
      · simp
      · split <;> simp
    omega

set_option maxRecDepth 100000 in
set_option maxHeartbeats 4000000 in
theorem of_any (v : Value) (l : List PF) (w : World) (hv : PFAt w v l) :
    Calls Tryd.prog 47 #[v] w fun e w' => ∃ v', e = .returned v' ∧ PFRow w.heap.size w' v' (ofL l) ∧ Below w.heap.size w w' := by
  have hv0 := Lib.hid hv
  obtain ⟨a, cap, rfl, hlen, hc⟩ := hv
  have HC := Lib.hid hc
  have kb := Blk.new w #[.int .i64 1] 3
  have hB0 := (Below.refl w.heap.size w).alloc (Nat.le_refl _) (.cells #[.int .i64 1] 3)
  have HK := Lib.hid kb; have HB0 := Lib.hid hB0
  clear hc kb hB0
  go_enter Tryd.func47, Tryd.ntmps47
  go_wp2_with fail
  go_loopg [3, 4] 13 (fun g s3 s4 wr => ∃ (r rb : Nat), r + g = 13 ∧ s4 = .pointer (some ⟨rb, 0, none⟩) ∧ Blk wr rb #[.int .i64 ((r : Int) + 1)] ∧ w.heap.size ≤ rb ∧ (∀ k, s3.ownBlock = some k → k < rb) ∧ PFRow w.heap.size wr s3 (ofN l r) ∧ Below w.heap.size w wr)
  case atStart => exact ⟨0, w.heap.size, rfl, rfl, HK.out, Nat.le_refl _, (fun k hk => by cases hk), PFRow.nil _ _, HB0.out⟩
  case round =>
    obtain ⟨r, rb, hg, rfl, hk, hrb, hob, hrow, hB⟩ := hrel
    have HOB := Lib.hid hob
    clear hob
    have k0 := hk.cell 0
    simp at k0
    have kf := hk.free 0
    have klt := hk.lt
    have hzB := hB.size
    by_cases hr : r < 13
    · have hix := fun W h => idxf_any 71 #[.pointer (some ⟨rb, 0, none⟩)] (enters_of Tryd.func71 (by kernel_rfl) rfl) (.slice a l.length cap) l (r + 1) W h
      have hcl : ∀ (W : World) (x : PF), x ∈ l → Below wr.heap.size wr W → Calls Tryd.prog 71 (#[.agg #[.int .u8 x.1, .int .i64 x.2.1, .string x.2.2]] ++ #[.pointer (some ⟨rb, 0, none⟩)]) W fun e w' => e = .returned (.bool (rankB x.1 == r + 1)) ∧ Below W.heap.size W w' :=
        fun W x _ hW => of1_any x rb (r + 1) (by omega) W (by have := cell_later k0 hW; rw [this]; rfl)
      have hix2 := hix wr (hv0.out.later (hB.mono (Nat.le_refl _))) hcl
      have hrI : (r : Int) + 1 ≤ 13 := by omega
      clear hix hcl
      have hof : ofN l (r + 1) = ofN l r ++ ofOne l (r + 1) := rfl
      have HOF := Lib.hid hof
      clear hof
      go_wp2_with fail
      refine hix2.mono ?_
      rintro e w1 ⟨⟨k, rfl, hfk⟩, hB1⟩
      have hB2 := hB.trans (hB1.mono hzB)
      have hk1 := hk.on hB1
      have k0 := hk1.cell 0
      simp at k0
      have kf := hk1.free 0
      have hrow1 := hrow.later hB1
      have klt := hk1.lt
      have hzB2 := hB2.size
      -- what the next round begins with: a new block for the rank
      have hnext : ∀ (W : World) (v : Value) (L : List PF), PFRow w.heap.size W v L → Below w.heap.size w W → ∃ (rb' : Nat), (.pointer (some ⟨W.heap.size, 0, none⟩) : Value) = .pointer (some ⟨rb', 0, none⟩) ∧ Blk (W.alloc (.cells #[.int .i64 ((r : Int) + 1 + 1)] 3)) rb' #[.int .i64 (((r + 1 : Nat) : Int) + 1)] ∧ w.heap.size ≤ rb' ∧ (∀ k, v.ownBlock = some k → k < rb') ∧ PFRow w.heap.size (W.alloc (.cells #[.int .i64 ((r : Int) + 1 + 1)] 3)) v L ∧ Below w.heap.size w (W.alloc (.cells #[.int .i64 ((r : Int) + 1 + 1)] 3)) :=
        fun W v L hr hb => ⟨W.heap.size, rfl, by have := Blk.new W #[.int .i64 ((r : Int) + 1 + 1)] 3; push_cast; exact this, hb.size, (fun k hk => (World.ownsRow.lt hr k hk).2), hr.later ((Below.refl _ _).alloc (Nat.le_refl _) _), hb.alloc hb.size _⟩
      have HNX := Lib.hid hnext
      clear hnext
      rcases hfk with ⟨rfl, hfn⟩ | ⟨n, hn, rfl, hfn⟩
      · have ho : ofN l (r + 1) = ofN l r := by rw [HOF.out]; unfold ofOne; split <;> simp [hfn]
        have HO := Lib.hid ho
        clear ho hfn
        by_cases h8 : r + 1 = 8
        · have h8I : ((r : Int) + 1 != 8) = false := by simp; omega
          clear h8
          go_wp2_with fail
          go_roundg (gk - 1)
          case rel =>
            obtain ⟨rb', e1, e2, e3, e6, e4, e5⟩ := HNX.out _ _ _ hrow1 hB2
            exact ⟨r + 1, rb', by omega, e1, e2, e3, e6, by rw [HO.out]; exact e4, e5⟩
          case measure => omega
        · have h8I : ((r : Int) + 1 != 8) = true := by simp; omega
          clear h8
          go_wp2_with fail
          go_roundg (gk - 1)
          case rel =>
            obtain ⟨rb', e1, e2, e3, e6, e4, e5⟩ := HNX.out _ _ _ hrow1 hB2
            exact ⟨r + 1, rb', by omega, e1, e2, e3, e6, by rw [HO.out]; exact e4, e5⟩
          case measure => omega
      · by_cases h8 : r + 1 = 8
        · have ho : ofN l (r + 1) = ofN l r := by rw [HOF.out, h8]; simp [ofOne]
          have HO := Lib.hid ho
          have h8I : ((r : Int) + 1 != 8) = false := by simp; omega
          clear ho hfn h8
          go_wp2_with fail
          go_roundg (gk - 1)
          case rel =>
            obtain ⟨rb', e1, e2, e3, e6, e4, e5⟩ := HNX.out _ _ _ hrow1 hB2
            exact ⟨r + 1, rb', by omega, e1, e2, e3, e6, by rw [HO.out]; exact e4, e5⟩
          case measure => omega
        · have ho : ofN l (r + 1) = ofN l r ++ [(plainB l[n].1, l[n].2.1, ⟨#[]⟩)] := by rw [HOF.out]; unfold ofOne; rw [if_neg h8, hfn]
          have HO := Lib.hid ho
          have h8I : ((r : Int) + 1 != 8) = true := by simp; omega
          have hnI : (0 : Int) ≤ n := by omega
          have hnl : (n : Int) < l.length := by omega
          obtain ⟨g, off, rfl, hgw, p0, p1, _⟩ := HC.out n hn
          generalize l[n] = x at *
          obtain ⟨b, c, t⟩ := x
          simp only at p0 p1 HO
          have q0 := (hB2.cell (p := ⟨g, _, none⟩) hgw).trans p0
          have q1 := (hB2.cell (p := ⟨g, _, none⟩) hgw).trans p1
          have hll := ofN_len l r
          clear ho hfn h8 p0 p1
          have hrow2 : PFRow w.heap.size w1.drew u3 (ofN l r) := hrow1
          have hB3 : Below w.heap.size w w1.drew := hB2.drew
          have hz3 : w.heap.size ≤ w1.drew.heap.size := hzB2
          go_upto_region 7 with fail
          go_region_law (first | (refine step_snoc_pf (x := (plainB b, c, ⟨#[]⟩)) rfl _ _ rfl w.heap.size u3 (ofN l r) rfl hrow2 _ rfl rfl (by omega) hB3 (Nat.le_refl _) hz3 ?_; intro v' w2 hrow4 hB4 hkeep) | (go_simp; go_at_call 72; refine (plain_any _ _).mono ?_; rintro e w' ⟨rfl, rfl⟩))
          all_goals
            have hbk : Blk w2 rb #[.int .i64 ((r : Int) + 1)] := by
              obtain ⟨ty, hty⟩ := hk1
              exact ⟨ty, (hkeep rb klt (fun e => by have := HOB.out rb e; omega)).trans hty⟩
            have z0 := hbk.cell 0
            simp at z0
            have zf := hbk.free 0
            have zlt := hbk.lt
            clear hkeep
            go_wp2_with fail
            go_roundg (gk - 1)
            case rel =>
              obtain ⟨rb', e1, e2, e3, e6, e4, e5⟩ := HNX.out _ _ _ hrow4 hB4
              exact ⟨r + 1, rb', by omega, e1, e2, e3, e6, by rw [HO.out]; exact e4, e5⟩
            case measure => omega
    · have hrI : ¬ (r : Int) + 1 ≤ 13 := by omega
      have hre : r = 13 := by omega
      subst hre
      go_wp2_with fail
      go_ret
      exact ⟨_, rfl, hrow, hB⟩
end Go.Proofs.YtbnhfjhhbgmhfaaDoor
