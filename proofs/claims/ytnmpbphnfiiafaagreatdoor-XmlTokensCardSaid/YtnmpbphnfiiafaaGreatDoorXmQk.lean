/-
  The document's answer: the begin of an element.
-/
import Derived.Test.YtnmpbphnfiiafaaGreatDoorXmQj
import Derived.Test.YtnmpbphnfiiafaaGreatDoorXmX
namespace Go.Proofs.YtnmpbphnfiiafaaGreatDoor
open Go.RowKit Go.PlainAid

section
variable {w W W' W5 w6 w8 Wx Wy : World} {lo cb tb : Nat} {s : ByteArray} {q q' : Nat} {e a e' a' : Int} {ov pv tv c7 v v' v8 y4 y5 : Value} {out out' ts : List Tk} {pile : List ByteArray} {text : List UInt8} {x : ByteArray} {k : Nat} {l : List At2} {ms xs : List TkM} {TC : Array Value}
/-- The scan within a begin: the token lies in a block of its own. -/
structure BgS (w : World) (cb tb : Nat) (s : ByteArray) (q : Nat) (e a : Int) (ov pv tv c7 : Value) (x : ByteArray) (k : Nat) (v : Value) (l : List At2) (W : World) : Prop where
  scn : Scn cb s q e a ov pv tv c7 W
  keep : KeepX w.heap.size cb w W
  tok : W.heap[tb]? = some (.cells #[.int .i64 1, .string x, v, .string ⟨#[]⟩, .int .i64 (k : Int)] 45 (0, 0))
  row : GRow AtE (tb + 1) W v l
  tb : w.heap.size ≤ tb
theorem BgS.next (h : BgS w cb tb s q e a ov pv tv c7 x k v l W) (hcb : cb < w.heap.size) (hM : ScnM cb s e' a' ov pv tv c7 W q' W') : BgS w cb tb s q' e' a' ov pv tv c7 x k v l W' := by
  have htb := h.tb
  exact ⟨hM.1, h.keep.trans (hM.2.mono h.keep.size), (hM.2.block tb (lt_some h.tok) (by omega)).trans h.tok, h.row.later (fun g hg => hM.2.block g (h.row.lt g hg) (by have := h.row.own g hg; omega)), htb⟩
theorem BgS.on (h : BgS w cb tb s q e a ov pv tv c7 x k v l W) (hcb : cb < w.heap.size) (hB : Below W.heap.size W W') : BgS w cb tb s q e a ov pv tv c7 x k v l W' := h.next hcb (h.scn.moved hB)
/-- An attribute is put behind. -/
theorem BgS.grow (h : BgS w cb tb s q e a ov pv tv c7 x k v l W) (hcb : cb < w.heap.size) {y : At2} {o : Obj} (hr : GRow AtE (tb + 1) w6 v' (l ++ [y])) (hg : (W.alloc o).grownBy w6 v.ownBlock) :
    w6.frozen? ⟨tb, 2, none⟩ = false ∧ w6.cell? ⟨tb, 2, none⟩ = some v ∧ BgS w cb tb s q e a ov pv tv c7 x k v' (l ++ [y]) (w6.setCell ⟨tb, 2, none⟩ v') ∧ (∀ o, w6.cell? ⟨tb, o, none⟩ = #[Value.int .i64 1, Value.string x, v, Value.string ⟨#[]⟩, Value.int .i64 (k : Int)][o]?) := by
  have htb := h.tb
  have hown := h.row.own
  have key : ∀ k, k < W.heap.size → v.ownBlock ≠ some k → w6.heap[k]? = W.heap[k]? := fun k hk hn =>
    (hg.block k (by simp; omega) (fun e => hn e.symm)).trans (Lib.alloc_old W _ k hk)
  have htz := lt_some h.tok
  have ht6 := (key tb htz (fun e => by have := hown _ e; omega)).trans h.tok
  have hsz : W.heap.size ≤ w6.heap.size := Nat.le_trans (by simp) hg.size
  refine ⟨freeH ht6 2, cellH ht6 2, ⟨(Below.heap_setCell _ _ _ _ (by simp; omega)).trans ((key cb h.scn.lt (fun e => by have := hown _ e; omega)).trans h.scn), h.keep.trans ⟨hg.os, hg.tape, hg.output, by simpa [World.setCell] using hsz, fun j hj hx => (Below.heap_setCell _ _ _ _ (by simp; omega)).trans (key j (Nat.lt_of_lt_of_le hj h.keep.size) (fun e => by have := hown _ e; omega))⟩, setH ht6 2 v', hr.set tb 2 _ (by omega), htb⟩, cellH ht6⟩
theorem bg_keep (ht : W'.heap[tb]? = W.heap[tb]?) (hc : W'.heap[cb]? = W.heap[cb]?) (h : (∀ o, W.cell? ⟨tb, o, none⟩ = TC[o]?) ∧ W.cell? ⟨cb, 4, none⟩ = some y4 ∧ W.cell? ⟨cb, 5, none⟩ = some y5) : (∀ o, W'.cell? ⟨tb, o, none⟩ = TC[o]?) ∧ W'.cell? ⟨cb, 4, none⟩ = some y4 ∧ W'.cell? ⟨cb, 5, none⟩ = some y5 :=
  ⟨fun o => (World.cell?_of_block ht).trans (h.1 o), (World.cell?_of_block hc).trans h.2.1, (World.cell?_of_block hc).trans h.2.2⟩
theorem blk_kept {b : Nat} {cs : Array Value} (h : Blk W b cs) (hg : W.grownBy w6 v.ownBlock) (hn : v.ownBlock ≠ some b) : Blk w6 b cs := by
  obtain ⟨t, h⟩ := h
  exact ⟨t, (hg.block b (lt_some h) (fun e => hn e.symm)).trans h⟩
/-- Tokens are told within a begin. -/
theorem bg_told (h : BgS w cb tb s q e a ov pv tv c7 x k v l W) (hR : ScR lo ov pv tv out pile text w) (hcb : cb < lo) (hBx : Below W.heap.size W Wx) (h2 : ms.length = out.length) (h3 : ∀ j (h : j < ms.length) (h' : j < out.length), TkOk lo W ms[j] out[j]) (h4 : xs.length = ts.length) (h5 : ∀ j (h : j < xs.length) (h' : j < ts.length), TkOk lo W xs[j] ts[j]) :
    ∀ v' w6, GRow TkE lo w6 v' (ms ++ xs) → Wx.grownBy w6 ov.ownBlock → ScR lo v' pv tv (out ++ ts) pile text w6 ∧ Below lo W w6 ∧ w6.heap[tb]? = W.heap[tb]? ∧ w6.heap[cb]? = W.heap[cb]? := fun v' w6 hr hg => by
  have hRx := (hR.keep h.keep hcb).on hBx
  have ht : ∀ m t, TkOk lo W m t → TkOk lo Wx m t := fun m t hk => hk.later (fun g c _ hc => hBx.block g (lt_some hc))
  obtain ⟨hR6, hB6, hk⟩ := hRx.told h2 (fun j hj hj' => ht _ _ (h3 j hj hj')) h4 (fun j hj hj' => ht _ _ (h5 j hj hj')) hr hg
  have htz := lt_some h.tok
  have hlo := hR.lo
  have hsz := h.keep.size
  have htb := h.tb
  refine ⟨hR6, (hBx.mono (by omega)).trans hB6, (hk tb (Nat.lt_of_lt_of_le htz hBx.size) (fun e => ?_)).trans (hBx.block tb htz), (hB6.block cb hcb).trans (hBx.block cb (by omega))⟩
  obtain ⟨_, c, hc⟩ := hR.out.own tb e
  have := lt_some hc
  omega
/-- An element is opened within a begin. -/
theorem bg_pushed (h : BgS w cb tb s q e a ov pv tv c7 x k v l W) (hR : ScR lo ov pv tv out pile text w) (hcb : cb < lo) (hR6 : ScR lo v' pv tv out' pile text w6) (hB6 : Below lo W w6) (ht6 : w6.heap[tb]? = W.heap[tb]?) (hc6 : w6.heap[cb]? = W.heap[cb]?) (hBy : Below w6.heap.size w6 Wy) {nm : ByteArray} (hr : GRow StrE lo w8 v8 (pile ++ [nm])) (hg : Wy.grownBy w8 pv.ownBlock) :
    ScR lo v' v8 tv out' (pile ++ [nm]) text w8 ∧ Below lo W w8 ∧ w8.heap[tb]? = W.heap[tb]? ∧ w8.heap[cb]? = W.heap[cb]? := by
  have hRy := hR6.on hBy
  obtain ⟨hR8, hB8, hk⟩ := hRy.pushed hr hg
  have htz := Nat.lt_of_lt_of_le (lt_some h.tok) hB6.size
  have hcz := Nat.lt_of_lt_of_le h.scn.lt hB6.size
  have htb := h.tb
  refine ⟨hR8, hB6.trans ((hBy.mono hR6.lo).trans hB8), (hk tb (Nat.lt_of_lt_of_le htz hBy.size) (fun e => ?_)).trans ((hBy.block tb htz).trans ht6), (hB8.block cb hcb).trans ((hBy.block cb hcz).trans hc6)⟩
  have := hR.pile.lt tb e
  omega
theorem bg_stored4 (h : BgS w cb tb s q e a ov pv tv c7 x k v l W) (hcb : cb < lo) (hR8 : ScR lo v' pv tv out' pile text w6) (hB8 : Below lo W w6) (hc8 : w6.heap[cb]? = W.heap[cb]?) (hlo : lo ≤ w.heap.size) :
    w6.frozen? ⟨cb, 4, none⟩ = false ∧ w6.cell? ⟨cb, 4, none⟩ = some ov ∧ (Scn cb s q e a v' pv tv c7 (w6.setCell ⟨cb, 4, none⟩ v') ∧ ScR lo v' pv tv out' pile text (w6.setCell ⟨cb, 4, none⟩ v') ∧ KeepX lo cb w (w6.setCell ⟨cb, 4, none⟩ v')) := by
  have hs : Scn cb s q e a ov pv tv c7 w6 := hc8.trans h.scn
  exact ⟨hs.free 4, hs.cell4, hs.set4 v', hR8.set hcb 4 v', (h.keep.mono hlo).trans ((KeepX.of hB8 (Nat.le_refl _)).setCell 4 v')⟩
theorem bg_stored (h : BgS w cb tb s q e a ov pv tv c7 x k v l W) (hcb : cb < lo) (hR8 : ScR lo v' v8 tv out' pile text w8) (hB8 : Below lo W w8) (hc8 : w8.heap[cb]? = W.heap[cb]?) (hlo : lo ≤ w.heap.size) :
    w8.frozen? ⟨cb, 4, none⟩ = false ∧ w8.cell? ⟨cb, 4, none⟩ = some ov ∧ (w8.setCell ⟨cb, 4, none⟩ v').frozen? ⟨cb, 5, none⟩ = false ∧ (w8.setCell ⟨cb, 4, none⟩ v').cell? ⟨cb, 5, none⟩ = some pv ∧
      (Scn cb s q e a v' v8 tv c7 ((w8.setCell ⟨cb, 4, none⟩ v').setCell ⟨cb, 5, none⟩ v8) ∧ ScR lo v' v8 tv out' pile text ((w8.setCell ⟨cb, 4, none⟩ v').setCell ⟨cb, 5, none⟩ v8) ∧ KeepX lo cb w ((w8.setCell ⟨cb, 4, none⟩ v').setCell ⟨cb, 5, none⟩ v8)) := by
  have hs : Scn cb s q e a ov pv tv c7 w8 := hc8.trans h.scn
  have hs4 := hs.set4 v'
  exact ⟨hs.free 4, hs.cell4, hs4.free 5, hs4.cell5, hs4.set5 v8, (hR8.set hcb 4 v').set hcb 5 v8, (h.keep.mono hlo).trans (((KeepX.of hB8 (Nat.le_refl _)).setCell 4 v').setCell 5 v8)⟩
end
/-- What a begin comes to. -/
def RBeg (lo cb : Nat) (s : ByteArray) (at_ : Nat) (ov pv tv c7 : Value) (out : List Tk) (pile : List ByteArray) (text : List UInt8) (w : World) (x : Xr (ByteArray × Bool × List At2)) (en : Ending) (w' : World) : Prop :=
  match x with
  | .bad e a => e ≠ 0 ∧ en = .returned (.tuple #[]) ∧ ∃ q, q ≤ s.size ∧ ScnM cb s e (a : Int) ov pv tv c7 w q w'
  | .ok q (nm, sh, l) => en = .returned (.tuple #[]) ∧ ∃ ov' pv', Scn cb s q 0 0 ov' pv' tv c7 w' ∧ ScR lo ov' pv' tv (out ++ begT at_ nm sh l) (if sh = true then pile else pile ++ [nm]) text w' ∧ KeepX lo cb w w'
section
set_option maxRecDepth 100000
set_option maxHeartbeats 16000000
theorem rBegin_any {lo cb : Nat} {s : ByteArray} {at_ : Nat} {ov pv tv c7 : Value} {out : List Tk} {pile : List ByteArray} {text : List UInt8} {w : World} (h : Scn cb s at_ 0 0 ov pv tv c7 w) (hR : ScR lo ov pv tv out pile text w) (hcb : cb < lo) (ha : at_ < s.size) (hz : s.size ≤ 100000000) (hol : out.length ≤ 10000000) (hpl : pile.length ≤ 64) :
    Calls Tryz.prog 36 #[.pointer (some ⟨cb, 0, none⟩)] w fun en w' => RBeg lo cb s at_ ov pv tv c7 out pile text w (begX s at_ pile.length) en w' := by
  obtain ⟨R, hRR⟩ : ∃ R, begX s at_ pile.length = R := ⟨_, rfl⟩
  rw [hRR]
  obtain ⟨oa, on, oc, hov⟩ := hR.out.choose_spec.1.form'
  obtain ⟨pa, pn, pc, hpv⟩ := hR.pile.form'
  have hpn : pn = pile.length := by
    obtain ⟨_, _, e⟩ := hR.pile.form
    rw [hpv] at e
    injection e
  subst hov hpv
  have c1 := h.cell1
  have d0 := h.free 1
  have f1 : IntKind.i64.wrap ((at_ : Int) + 1) = ((at_ + 1 : Nat) : Int) := by rw [IntWalk.i64_in _ (by omega)]; omega
  obtain ⟨w1, hw1⟩ : ∃ w1, w.setCell ⟨cb, 1, none⟩ (.int .i64 ((at_ + 1 : Nat) : Int)) = w1 := ⟨_, rfl⟩
  obtain ⟨w2, hw2⟩ : ∃ w2, w1.alloc (.cells #[.int .i64 1, .string ⟨#[]⟩, .slice none 0 0, .string ⟨#[]⟩, .int .i64 (at_ : Int)] 45) = w2 := ⟨_, rfl⟩
  have hs1 : Scn cb s (at_ + 1) 0 0 (.slice oa on oc) (.slice pa pn pc) tv c7 w1 := by rw [← hw1]; exact h.set1 (at_ + 1)
  have hz1 : w1.heap.size = w.heap.size := by rw [← hw1]; simp [World.setCell]
  have hB2 : Below w1.heap.size w1 w2 := by rw [← hw2]; exact (Below.refl _ _).alloc (Nat.le_refl _) _
  have hk1 : KeepX w.heap.size cb w w1 := by rw [← hw1]; exact (KeepX.refl _ _ _).setCell 1 _
  have hcw := h.lt
  have hnm := rName1_any (hs1.on hB2) (by omega) (by omega)
  have hb2 : BgS w cb w.heap.size s (at_ + 1) 0 0 (.slice oa on oc) (.slice pa pn pc) tv c7 ⟨#[]⟩ at_ (.slice none 0 0) [] w2 := ⟨hs1.on hB2, hk1.trans (KeepX.of hB2 (by omega)), by rw [← hw2]; exact push_new _ _ _ hz1.symm, GRow.nil _ _ _, Nat.le_refl _⟩
  have HRR := Lib.hid hRR; have HW1 := Lib.hid hw1; have HW2 := Lib.hid hw2; have HB2 := Lib.hid hb2; have HCW := Lib.hid hcw; have HRW := Lib.hid hR; have HCB := Lib.hid hcb; have HPN := Lib.hid hpn; have HZ1 := Lib.hid hz1; have HOL := Lib.hid (And.intro hol hpl)
  clear hRR hw1 hw2 hb2 hcw hR hcb hs1 hB2 hk1 h hpn hol hpl hz1
  go_enter Tryz.func36, Tryz.ntmps36
  go_upto_region 2 with fail
  rw [show ((at_ + 1 : Nat) : Int) = (at_ : Int) + 1 by omega] at HW1
  rw [HW1.out]
  go_wp2_with fail
  rw [HW2.out, HZ1.out]
  obtain ⟨tb, htb⟩ : ∃ tb, w.heap.size = tb := ⟨_, rfl⟩
  have HTB := Lib.hid htb
  have HB2 := Lib.hid (show BgS w cb tb s (at_ + 1) 0 0 (.slice oa on oc) (.slice pa pn pc) tv c7 ⟨#[]⟩ at_ (.slice none 0 0) [] w2 by rw [← htb]; exact HB2.out)
  rw [htb]
  clear htb
  refine hnm.mono ?_
  intro en w3 hE
  clear c1 d0 f1 hnm
  obtain ⟨x, rfl, hst⟩ : ∃ x : ByteArray, en = .returned (.string x) ∧ ((∃ q, nameX s (at_ + 1) = .ok q x ∧ q ≤ s.size ∧ ScnM cb s 0 0 (.slice oa on oc) (.slice pa pn pc) tv c7 w2 q w3) ∨ (∃ (e : Int) (a q : Nat), e ≠ 0 ∧ R = .bad e a ∧ ScnM cb s e (a : Int) (.slice oa on oc) (.slice pa pn pc) tv c7 w2 q w3 ∧ q ≤ s.size)) := by
    unfold SEnd at hE
    cases hx : nameX s (at_ + 1) with
    | bad ee aa =>
      rw [hx] at hE
      obtain ⟨hee, ⟨x, hxx⟩, q, hq, hM⟩ := hE
      exact ⟨x, hxx, .inr ⟨ee, aa, q, hee, by rw [← HRR.out]; exact begX_bad hx, hM, hq⟩⟩
    | ok q x =>
      rw [hx] at hE
      exact ⟨x, hE.1, .inl ⟨q, rfl, (nameX_in hx (by omega)).2, hE.2⟩⟩
  have hset : ∀ {e a : Int} {q : Nat}, ScnM cb s e a (.slice oa on oc) (.slice pa pn pc) tv c7 w2 q w3 → BgS w cb tb s q e a (.slice oa on oc) (.slice pa pn pc) tv c7 x at_ (.slice none 0 0) [] (w3.setCell ⟨tb, 1, none⟩ (.string x)) ∧ w3.frozen? ⟨tb, 1, none⟩ = false ∧ w3.cell? ⟨tb, 1, none⟩ = some (.string ⟨#[]⟩) := fun {e a q} hM => by
    have hb3 := HB2.out.next HCW.out hM
    have hcw := HCW.out
    have htb := HTB.out
    exact ⟨⟨(Below.heap_setCell _ _ _ _ (by simp; omega)).trans hb3.scn, hb3.keep.trans ⟨rfl, rfl, rfl, by simp [World.setCell], fun k hk _ => Below.heap_setCell _ _ _ _ (by simp; omega)⟩, setH hb3.tok 1 _, GRow.nil _ _ _, by omega⟩, freeH hb3.tok 1, cellH hb3.tok 1⟩
  have hd : w3.frozen? ⟨tb, 1, none⟩ = false ∧ w3.cell? ⟨tb, 1, none⟩ = some (.string ⟨#[]⟩) := by
    rcases hst with ⟨q, _, _, hM⟩ | ⟨_, _, _, _, _, hM, _⟩
    · exact (hset hM).2
    · exact (hset hM).2
  obtain ⟨d0, d1⟩ := hd
  have hst4 : (∃ q, nameX s (at_ + 1) = .ok q x ∧ q ≤ s.size ∧ BgS w cb tb s q 0 0 (.slice oa on oc) (.slice pa pn pc) tv c7 x at_ (.slice none 0 0) [] (w3.setCell ⟨tb, 1, none⟩ (.string x))) ∨ (∃ (e : Int) (a q : Nat), e ≠ 0 ∧ R = .bad e a ∧ q ≤ s.size ∧ BgS w cb tb s q e (a : Int) (.slice oa on oc) (.slice pa pn pc) tv c7 x at_ (.slice none 0 0) [] (w3.setCell ⟨tb, 1, none⟩ (.string x))) := by
    rcases hst with ⟨q, h1, h2, hM⟩ | ⟨e, a, q, h1, h2, hM, h3⟩
    · exact .inl ⟨q, h1, h2, (hset hM).1⟩
    · exact .inr ⟨e, a, q, h1, h2, h3, (hset hM).1⟩
  have HS4 := Lib.hid hst4
  clear hst hset hst4 hE HB2 HW1 HW2 HZ1
  go_upto_region 4 with fail
  generalize w3.setCell ⟨tb, 1, none⟩ (.string x) = w4 at *
  clear d0 d1
  go_cut [31] (fun s31 wx => (∃ q, nameX s (at_ + 1) = .ok q x ∧ q ≤ s.size ∧ s31 = .bool (decide (pn = 64)) ∧ BgS w cb tb s q 0 0 (.slice oa on oc) (.slice pa pn pc) tv c7 x at_ (.slice none 0 0) [] wx) ∨ (∃ (e : Int) (a q : Nat), e ≠ 0 ∧ R = .bad e a ∧ q ≤ s.size ∧ s31 = .bool false ∧ BgS w cb tb s q e (a : Int) (.slice oa on oc) (.slice pa pn pc) tv c7 x at_ (.slice none 0 0) [] wx))
  case first =>
    rcases HS4.out with ⟨q, hx, hq, hS⟩ | ⟨e, a, q, he, hx, hq, hS⟩
    · have hbd := bad_no hS.scn
      have c5 := hS.scn.cell5
      have HX := Lib.hid hx; have HS := Lib.hid hS
      clear hx hS
      by_cases h64 : pn = 64
      · have hnI : ((pn : Int) == 64) = true := by simp; omega
        have HD := Lib.hid (decide_eq_true h64)
        clear h64
        go_wp2_with fail
        refine hbd.mono ?_
        rintro en w' ⟨rfl, rfl⟩
        go_wp2_with fail
        go_meet
        case rel => exact .inl ⟨q, HX.out, hq, by rw [HD.out], HS.out⟩
      · have hnI : ((pn : Int) == 64) = false := by simp; omega
        have HD := Lib.hid (decide_eq_false h64)
        clear h64
        go_wp2_with fail
        refine hbd.mono ?_
        rintro en w' ⟨rfl, rfl⟩
        go_wp2_with fail
        go_meet
        case rel => exact .inl ⟨q, HX.out, hq, by rw [HD.out], HS.out⟩
    · have hbd := bad_yes hS.scn he
      have HX := Lib.hid hx; have HS := Lib.hid hS; have HE := Lib.hid he
      clear hx hS he
      go_wp2_with fail
      refine hbd.mono ?_
      rintro en w' ⟨rfl, rfl⟩
      go_wp2_with fail
      go_meet
      case rel => exact .inr ⟨e, a, q, HE.out, HX.out, hq, rfl, HS.out⟩
  case rest =>
  have HC1 := Lib.hid hcut
  clear hcut HS4
  go_upto_if 31 with fail
  go_cut [] (fun wx => (∃ q, nameX s (at_ + 1) = .ok q x ∧ q ≤ s.size ∧ pn ≠ 64 ∧ BgS w cb tb s q 0 0 (.slice oa on oc) (.slice pa pn pc) tv c7 x at_ (.slice none 0 0) [] wx) ∨ (∃ (e : Int) (a q : Nat), e ≠ 0 ∧ R = .bad e a ∧ q ≤ s.size ∧ BgS w cb tb s q e (a : Int) (.slice oa on oc) (.slice pa pn pc) tv c7 x at_ (.slice none 0 0) [] wx))
  case first =>
    rcases HC1.out with ⟨q, hx, hq, hs, hS⟩ | ⟨e, a, q, he, hx, hq, hs, hS⟩
    · have HX := Lib.hid hx; have HS := Lib.hid hS
      clear hx hS
      by_cases h64 : pn = 64
      · rw [decide_eq_true h64] at hs
        subst hs
        have hwf := wrong_first HS.out.scn 3 (at_ : Int)
        have HX3 := Lib.hid (show R = .bad 3 at_ by rw [← HRR.out]; exact begX_full HX.out (by rw [← HPN.out]; exact h64))
        clear h64 HC1
        go_wp2_with fail
        refine hwf.mono ?_
        rintro en w' ⟨rfl, rfl⟩
        clear hwf
        go_wp2_with fail
        go_meet
        case rel => exact .inr ⟨3, at_, q, by decide, HX3.out, hq, HS.out.next HCW.out ⟨HS.out.scn.mark 3 (at_ : Int), ((KeepX.refl _ cb _).setCell 2 (.int .i64 3)).setCell 3 (.int .i64 (at_ : Int))⟩⟩
      · rw [decide_eq_false h64] at hs
        subst hs
        clear HC1
        go_wp2_with fail
        go_meet
        case rel => exact .inl ⟨q, HX.out, hq, h64, HS.out⟩
    · subst hs
      have HX := Lib.hid hx; have HS := Lib.hid hS; have HE := Lib.hid he
      clear hx hS he HC1
      go_wp2_with fail
      go_meet
      case rel => exact .inr ⟨e, a, q, HE.out, HX.out, hq, HS.out⟩
  case rest =>
  have HCUT := Lib.hid hcut
  clear hcut HC1
  go_wp2_with fail
  go_loopg [] (s.size + 2) (fun f wx => ∃ (v : Value) (l : List At2), (∃ p g : Nat, s.size + 2 ≤ f + p ∧ p ≤ s.size ∧ s.size < p + g ∧ l.length ≤ 16 ∧ R = begR x (begF s g p l) ∧ BgS w cb tb s p 0 0 (.slice oa on oc) (.slice pa pn pc) tv c7 x at_ v l wx) ∨ (∃ (e : Int) (a q : Nat), e ≠ 0 ∧ R = .bad e a ∧ q ≤ s.size ∧ BgS w cb tb s q e (a : Int) (.slice oa on oc) (.slice pa pn pc) tv c7 x at_ v l wx))
  case atStart =>
    refine ⟨.slice none 0 0, [], ?_⟩
    rcases HCUT.out with ⟨q, h1, h2, h3, hS⟩ | hb
    · exact .inl ⟨q, s.size + 1 - q, by omega, h2, by omega, by simp, by rw [← HRR.out]; exact begX_go h1 (by rw [← HPN.out]; exact h3), hS⟩
    · exact .inr hb
  case round =>
    clear HCUT
    obtain ⟨v, l, ⟨p, g, hg, hp, hgf, hll, hre, hB⟩ | ⟨e, a, q, he, hx, hq, hB⟩⟩ := hrel
    · obtain ⟨g, rfl⟩ : ∃ k, g = k + 1 := ⟨g - 1, by omega⟩
      obtain ⟨aa, an, ac, rfl⟩ := hB.row.form'
      have hbd := bad_no hB.scn
      have hbl := rBlanks_any hB.scn hp (by omega)
      obtain ⟨kk, hkk⟩ : ∃ kk, blk s p = kk := ⟨_, rfl⟩
      have hkp := blk_ge s p
      have hks := blk_le s p hp
      rw [hkk] at hbl hkp hks
      have HKK := Lib.hid hkk; have HKP := Lib.hid hkp; have HRE := Lib.hid hre; have HB0 := Lib.hid hB; have HG := Lib.hid (And.intro hg (And.intro hgf hll))
      clear hkk hkp hre hB hg hgf hll
      have hw62 : wdAt s kk (([62] : List UInt8).map fun c => (c.toNat : Int)) = (bt s kk == 62) := by simp [wdAt]
      have hw47 : wdAt s kk (([47] : List UInt8).map fun c => (c.toNat : Int)) = (bt s kk == 47) := by simp [wdAt]
      have HW62 := Lib.hid hw62; have HW47 := Lib.hid hw47
      clear hw62 hw47
      go_wp2_with fail
      refine hbd.mono ?_
      rintro en w' ⟨rfl, rfl⟩
      go_wp2_with fail
      refine hbl.mono ?_
      rintro en w1 ⟨rfl, hM1⟩
      have hB1 := HB0.out.next HCW.out hM1
      have hi62 := is_any hB1.scn hks [62] (by decide)
      rw [HW62.out] at hi62
      have HB1 := Lib.hid hB1
      clear hM1 hB1 hbl hbd HB0
      by_cases h62 : bt s kk = 62
      · have h62b : (bt s kk == 62) = true := by simpa using h62
        rw [h62b] at hi62
        have hkl : kk < s.size := by
          by_cases hh : kk < s.size
          · exact hh
          · rw [bt_end s (by omega)] at h62; omega
        have HX := Lib.hid (show R = .ok (kk + 1) (x, false, l) by rw [HRE.out, begF_end HKK.out h62]; rfl)
        clear h62 h62b
        go_wp2_with fail
        refine hi62.mono ?_
        rintro en w2 ⟨rfl, hBl2⟩
        have hB2 := HB1.out.on HCW.out hBl2
        have d1 := hB2.scn.cell1
        have d0 := hB2.scn.free 1
        have f1 : IntKind.i64.wrap ((kk : Int) + 1) = ((kk + 1 : Nat) : Int) := by rw [IntWalk.i64_in _ (by omega)]; omega
        have hB3 := hB2.next HCW.out ((hB2.scn.moved (Below.refl _ _)).set (kk + 1))
        rw [show ((kk + 1 : Nat) : Int) = (kk : Int) + 1 by omega] at hB3
        have HB := Lib.hid hB3
        clear hB2 hB3 hBl2 hi62 HB1 HRE
        go_upto_region 10 with fail
        generalize w2.setCell ⟨cb, 1, none⟩ (.int .i64 ((kk : Int) + 1)) = W at *
        clear d1 d0 f1
        have hRW := HRW.out.keep HB.out.keep HCB.out
        obtain ⟨ms, hrow0, hms2, hms3⟩ := hRW.out
        have HB := Lib.hid (HB.out.on HCW.out (Below.refl W.heap.size W).drew)
        have hms3d : ∀ j (h : j < ms.length) (h' : j < out.length), TkOk lo W.drew ms[j] out[j] := fun j h h' => (hms3 j h h').later (fun _ _ _ _ => rfl)
        have hrow0d : GRow TkE lo W.drew (.slice oa on oc) ms := hrow0.on (Below.refl _ _).drew
        have hlen : ms.length ≤ 100000000 := by have := HOL.out.1; omega
        have hlen2 : pile.length ≤ 100000000 := by have := HOL.out.2; omega
        have hlot : lo ≤ tb + 1 := by have := HB.out.tb; have := HRW.out.lo; omega
        have hlod : lo ≤ W.drew.heap.size := hRW.lo
        have htok : ∀ j (h : j < ([(⟨1, x, aa, an, ac, ⟨#[]⟩, at_⟩ : TkM)]).length) (h' : j < ([(⟨1, x, l, ⟨#[]⟩, at_⟩ : Tk)]).length), TkOk lo W.drew ([(⟨1, x, aa, an, ac, ⟨#[]⟩, at_⟩ : TkM)])[j] ([(⟨1, x, l, ⟨#[]⟩, at_⟩ : Tk)])[j] := fun j h h' => by
          obtain rfl : j = 0 := by simp at h; omega
          exact ⟨rfl, rfl, rfl, rfl, HB.out.row.mono hlot⟩
        have HS := Lib.hid (show (∀ o, W.drew.cell? ⟨tb, o, none⟩ = #[Value.int .i64 1, Value.string x, Value.slice aa an ac, Value.string ⟨#[]⟩, Value.int .i64 (at_ : Int)][o]?) ∧ W.drew.cell? ⟨cb, 4, none⟩ = some (Value.slice oa on oc) ∧ W.drew.cell? ⟨cb, 5, none⟩ = some (Value.slice pa pn pc) from ⟨fun o => cellH HB.out.tok o, HB.out.scn.cell4, HB.out.scn.cell5⟩)
        have HTZ := Lib.hid (lt_some HB.out.tok); have HCZ := Lib.hid HB.out.scn.lt
        have HROWA := Lib.hid (hrow0d.on ((Below.refl W.drew.heap.size W.drew).alloc (Nat.le_refl _) (.cells #[.int .i64 1, .string x, .slice aa an ac, .string ⟨#[]⟩, .int .i64 (at_ : Int)] 45)))
        have HBASEA := Lib.hid (show lo ≤ (W.drew.alloc (.cells #[.int .i64 1, .string x, .slice aa an ac, .string ⟨#[]⟩, .int .i64 (at_ : Int)] 45)).heap.size from Nat.le_trans hlod (by simp))
        have HTOLDA := Lib.hid (bg_told HB.out HRW.out HCB.out ((Below.refl W.drew.heap.size W.drew).alloc (Nat.le_refl _) (.cells #[.int .i64 1, .string x, .slice aa an ac, .string ⟨#[]⟩, .int .i64 (at_ : Int)] 45)) hms2 hms3d (xs := [(⟨1, x, aa, an, ac, ⟨#[]⟩, at_⟩ : TkM)]) (ts := [(⟨1, x, l, ⟨#[]⟩, at_⟩ : Tk)]) rfl htok)
        have hBB : Below W.drew.heap.size W.drew ((W.drew.alloc (.cells #[.int .i64 1, .string x, .slice aa an ac, .string ⟨#[]⟩, .int .i64 (at_ : Int)] 45)).alloc (.cells #[.string x] 9)) := ((Below.refl _ _).alloc (Nat.le_refl _) _).alloc (by simp) _
        have hBC : Below W.drew.heap.size W.drew ((W.drew.alloc (.cells #[.string x] 9)).alloc (.cells #[.int .i64 1, .string x, .slice aa an ac, .string ⟨#[]⟩, .int .i64 (at_ : Int)] 45)) := ((Below.refl _ _).alloc (Nat.le_refl _) _).alloc (by simp) _
        have HROWB := Lib.hid (hrow0d.on hBB); have HROWC := Lib.hid (hrow0d.on hBC)
        have HBASEB := Lib.hid (show lo ≤ ((W.drew.alloc (.cells #[.int .i64 1, .string x, .slice aa an ac, .string ⟨#[]⟩, .int .i64 (at_ : Int)] 45)).alloc (.cells #[.string x] 9)).heap.size from Nat.le_trans hlod hBB.size)
        have HBASEC := Lib.hid (show lo ≤ ((W.drew.alloc (.cells #[.string x] 9)).alloc (.cells #[.int .i64 1, .string x, .slice aa an ac, .string ⟨#[]⟩, .int .i64 (at_ : Int)] 45)).heap.size from Nat.le_trans hlod hBC.size)
        have HTOLDB := Lib.hid (bg_told HB.out HRW.out HCB.out hBB hms2 hms3d (xs := [(⟨1, x, aa, an, ac, ⟨#[]⟩, at_⟩ : TkM)]) (ts := [(⟨1, x, l, ⟨#[]⟩, at_⟩ : Tk)]) rfl htok)
        have HTOLDC := Lib.hid (bg_told HB.out HRW.out HCB.out hBC hms2 hms3d (xs := [(⟨1, x, aa, an, ac, ⟨#[]⟩, at_⟩ : TkM)]) (ts := [(⟨1, x, l, ⟨#[]⟩, at_⟩ : Tk)]) rfl htok)
        have HNB := Lib.hid (show ∀ b, W.drew.heap.size ≤ b → (Value.slice oa on oc).ownBlock ≠ some b from fun b hb e => by
          obtain ⟨_, c, hc⟩ := hRW.out.own b e
          have h1 : b < W.drew.heap.size := lt_some hc
          omega)
        have HBLKB := Lib.hid (show Blk ((W.drew.alloc (.cells #[.int .i64 1, .string x, .slice aa an ac, .string ⟨#[]⟩, .int .i64 (at_ : Int)] 45)).alloc (.cells #[.string x] 9)) (W.heap.size + 1) #[.string x] from Blk.new' _ _ _ _ (by simp))
        have HBLKC := Lib.hid (show Blk ((W.drew.alloc (.cells #[.string x] 9)).alloc (.cells #[.int .i64 1, .string x, .slice aa an ac, .string ⟨#[]⟩, .int .i64 (at_ : Int)] 45)) (W.heap.size + 1) #[Value.int .i64 1, Value.string x, Value.slice aa an ac, Value.string ⟨#[]⟩, Value.int .i64 (at_ : Int)] from Blk.new' _ _ _ _ (by simp))
        have HBLKD := Lib.hid (show Blk ((W.drew.alloc (.cells #[.string x] 9)).alloc (.cells #[.int .i64 1, .string x, .slice aa an ac, .string ⟨#[]⟩, .int .i64 (at_ : Int)] 45)) W.heap.size #[.string x] from (Blk.new' _ _ _ _ rfl).alloc _)
        clear hBB hBC
        clear hRW hrow0 hms2 hms3 hms3d hrow0d hlot hlod htok
        refine wp_region_phase (S := fun w' => (∀ o, w'.cell? ⟨tb, o, none⟩ = #[Value.int .i64 1, Value.string x, Value.slice aa an ac, Value.string ⟨#[]⟩, Value.int .i64 (at_ : Int)][o]?) ∧ w'.cell? ⟨cb, 4, none⟩ = some (Value.slice oa on oc) ∧ w'.cell? ⟨cb, 5, none⟩ = some (Value.slice pa pn pc)) 19 (by kernel_rfl) (HS.out) (fun hHeld => ?_)
        refine puP 0 (fun _ => hHeld) ?_
        refine puP 1 (fun _ => hHeld) ?_
        refine puP 2 (fun _ => hHeld) ?_
        refine puP 3 (fun _ => hHeld) ?_
        refine puP 4 (fun _ => hHeld) ?_
        refine tkP [19] 5 hHeld ?_
        refine tkP [19] 6 hHeld ?_
        refine puP 9 (fun _ => hHeld) ?_
        refine puP 10 (fun _ => hHeld) ?_
        refine puP 11 (fun _ => hHeld) ?_
        refine tkP [19] 12 hHeld ?_
        refine puP 13 (fun _ => hHeld) ?_
        refine tkP [19, 16, 15] 14 hHeld ?_
        refine wpAnyP_ready (rs := [7, 15]) (by kernel_rfl) (by simp) ?_
        refine AllReadyP.cons rfl (fun K hK => ?_) ?_
        go_simp
        refine hK.out _ _ (bg_keep (Lib.alloc_old _ _ _ HTZ.out) (Lib.alloc_old _ _ _ HCZ.out) HS.out) (fun hHeld => ?_)
        clear hK K
        refine wpAnyP_ready (rs := [8, 15]) (by kernel_rfl) (by simp) ?_
        refine AllReadyP.cons rfl (fun K hK => ?_) ?_
        (refine step_snoc_g TkE (x := ⟨1, x, aa, an, ac, ⟨#[]⟩, at_⟩) rfl _ _ rfl lo (.slice oa on oc) ms rfl HROWA.out 1 _ rfl (Blk.new _ _ _) hlen HBASEA.out ?_; intro v' w6 hrow6 hg6; obtain ⟨a', n', c', rfl⟩ := hrow6.form'; obtain ⟨hR6, hB6, ht6, hc6⟩ := HTOLDA.out _ _ hrow6 hg6; have hS6 := bg_keep ht6 hc6 HS.out)
        refine hK.out _ _ (hS6) (fun hHeld => ?_)
        clear hK K
        refine wpAnyP_ready (rs := [15]) (by kernel_rfl) (by simp) ?_
        refine AllReadyP.cons rfl (fun K hK => ?_) AllReadyP.nil
        go_simp
        refine hK.out _ _ (bg_keep ((Lib.alloc_old _ _ _ (Nat.lt_of_lt_of_le HTZ.out hB6.size)).trans ht6) ((Lib.alloc_old _ _ _ (Nat.lt_of_lt_of_le HCZ.out hB6.size)).trans hc6) HS.out) (fun hHeld => ?_)
        clear hK K
        refine wpAnyP_ready (rs := [16]) (by kernel_rfl) (by simp) ?_
        refine AllReadyP.cons rfl (fun K hK => ?_) AllReadyP.nil
        (refine step_snoc_g StrE (x := x) rfl _ _ rfl lo (.slice pa pn pc) pile rfl (hR6.pile.on ((Below.refl _ _).alloc (Nat.le_refl _) _)) 1 _ rfl (Blk.new _ _ _) hlen2 (Nat.le_trans hR6.lo (by simp)) ?_; intro v8 w8 hrow8 hg8; obtain ⟨a8, n8, c8, rfl⟩ := hrow8.form'; obtain ⟨hR8, hB8, ht8, hc8⟩ := bg_pushed HB.out HRW.out HCB.out hR6 hB6 ht6 hc6 ((Below.refl _ _).alloc (Nat.le_refl _) _) hrow8 hg8; have hS8 := bg_keep ht8 hc8 HS.out; obtain ⟨f4, k4, f5, k5, hfin⟩ := bg_stored HB.out HCB.out hR8 hB8 hc8 HRW.out.lo)
        refine hK.out _ _ (hS8) (fun hHeld => ?_)
        clear hK K
        refine puP 17 (fun _ => hHeld) ?_
        refine puP 18 (fun _ => hHeld) ?_
        refine wpAnyP_ready (rs := [19]) (by kernel_rfl) (by simp) ?_
        refine AllReadyP.last rfl (by kernel_rfl) (fun K hK => ?_) AllReadyP.nil
        go_simp
        refine hK.out _ _ (trivial) (fun hHeld => ?_)
        clear hK K
        refine puP 20 (no_phase (by kernel_rfl)) ?_
        refine puP 21 (no_phase (by kernel_rfl)) ?_
        refine wpAnyP_ready (rs := [22]) (by kernel_rfl) (by simp) ?_
        refine AllReadyP.last rfl (by kernel_rfl) (fun K hK => ?_) AllReadyP.nil
        go_simp
        refine hK.out _ _ (trivial) (fun hHeld => ?_)
        clear hK K
        refine wpAnyP_done (by kernel_rfl) ?_ _
        go_wp2_with fail
        (try simp only [Exit.jump])
        first | go_end0 | refine bodyPost_ret (results_none rfl _ _ _) rfl ?_
        rw [HX.out]
        exact ⟨rfl, _, _, hfin.1, hfin.2.1, hfin.2.2⟩
        refine AllReadyP.cons rfl (fun K hK => ?_) ?_
        go_simp
        refine hK.out _ _ (bg_keep ((Lib.alloc_old _ _ _ (Nat.lt_of_lt_of_le HTZ.out (by simp))).trans (Lib.alloc_old _ _ _ HTZ.out)) ((Lib.alloc_old _ _ _ (Nat.lt_of_lt_of_le HCZ.out (by simp))).trans (Lib.alloc_old _ _ _ HCZ.out)) HS.out) (fun hHeld => ?_)
        clear hK K
        refine wpAnyP_ready (rs := [8]) (by kernel_rfl) (by simp) ?_
        refine AllReadyP.cons rfl (fun K hK => ?_) AllReadyP.nil
        (refine step_snoc_g TkE (x := ⟨1, x, aa, an, ac, ⟨#[]⟩, at_⟩) rfl _ _ rfl lo (.slice oa on oc) ms rfl HROWB.out 1 _ rfl ((Blk.new _ _ _).alloc _) hlen HBASEB.out ?_; intro v' w6 hrow6 hg6; obtain ⟨a', n', c', rfl⟩ := hrow6.form'; obtain ⟨hR6, hB6, ht6, hc6⟩ := HTOLDB.out _ _ hrow6 hg6; have hS6 := bg_keep ht6 hc6 HS.out)
        refine hK.out _ _ (hS6) (fun hHeld => ?_)
        clear hK K
        refine wpAnyP_ready (rs := [16]) (by kernel_rfl) (by simp) ?_
        refine AllReadyP.cons rfl (fun K hK => ?_) AllReadyP.nil
        (refine step_snoc_g StrE (x := x) rfl _ _ rfl lo (.slice pa pn pc) pile rfl (hR6.pile) 1 _ rfl (blk_kept HBLKB.out hg6 (HNB.out _ (by simp))) hlen2 (hR6.lo) ?_; intro v8 w8 hrow8 hg8; obtain ⟨a8, n8, c8, rfl⟩ := hrow8.form'; obtain ⟨hR8, hB8, ht8, hc8⟩ := bg_pushed HB.out HRW.out HCB.out hR6 hB6 ht6 hc6 (Below.refl _ _) hrow8 hg8; have hS8 := bg_keep ht8 hc8 HS.out; obtain ⟨f4, k4, f5, k5, hfin⟩ := bg_stored HB.out HCB.out hR8 hB8 hc8 HRW.out.lo)
        refine hK.out _ _ (hS8) (fun hHeld => ?_)
        clear hK K
        refine puP 17 (fun _ => hHeld) ?_
        refine puP 18 (fun _ => hHeld) ?_
        refine wpAnyP_ready (rs := [19]) (by kernel_rfl) (by simp) ?_
        refine AllReadyP.last rfl (by kernel_rfl) (fun K hK => ?_) AllReadyP.nil
        go_simp
        refine hK.out _ _ (trivial) (fun hHeld => ?_)
        clear hK K
        refine puP 20 (no_phase (by kernel_rfl)) ?_
        refine puP 21 (no_phase (by kernel_rfl)) ?_
        refine wpAnyP_ready (rs := [22]) (by kernel_rfl) (by simp) ?_
        refine AllReadyP.last rfl (by kernel_rfl) (fun K hK => ?_) AllReadyP.nil
        go_simp
        refine hK.out _ _ (trivial) (fun hHeld => ?_)
        clear hK K
        refine wpAnyP_done (by kernel_rfl) ?_ _
        go_wp2_with fail
        (try simp only [Exit.jump])
        first | go_end0 | refine bodyPost_ret (results_none rfl _ _ _) rfl ?_
        rw [HX.out]
        exact ⟨rfl, _, _, hfin.1, hfin.2.1, hfin.2.2⟩
        exact AllReadyP.nil
        refine AllReadyP.cons rfl (fun K hK => ?_) ?_
        go_simp
        refine hK.out _ _ (bg_keep (Lib.alloc_old _ _ _ HTZ.out) (Lib.alloc_old _ _ _ HCZ.out) HS.out) (fun hHeld => ?_)
        clear hK K
        refine wpAnyP_ready (rs := [7]) (by kernel_rfl) (by simp) ?_
        refine AllReadyP.cons rfl (fun K hK => ?_) AllReadyP.nil
        go_simp
        refine hK.out _ _ (bg_keep ((Lib.alloc_old _ _ _ (Nat.lt_of_lt_of_le HTZ.out (by simp))).trans (Lib.alloc_old _ _ _ HTZ.out)) ((Lib.alloc_old _ _ _ (Nat.lt_of_lt_of_le HCZ.out (by simp))).trans (Lib.alloc_old _ _ _ HCZ.out)) HS.out) (fun hHeld => ?_)
        clear hK K
        refine wpAnyP_ready (rs := [8]) (by kernel_rfl) (by simp) ?_
        refine AllReadyP.cons rfl (fun K hK => ?_) AllReadyP.nil
        (refine step_snoc_g TkE (x := ⟨1, x, aa, an, ac, ⟨#[]⟩, at_⟩) rfl _ _ rfl lo (.slice oa on oc) ms rfl HROWC.out 1 _ rfl (HBLKC.out) hlen HBASEC.out ?_; intro v' w6 hrow6 hg6; obtain ⟨a', n', c', rfl⟩ := hrow6.form'; obtain ⟨hR6, hB6, ht6, hc6⟩ := HTOLDC.out _ _ hrow6 hg6; have hS6 := bg_keep ht6 hc6 HS.out)
        refine hK.out _ _ (hS6) (fun hHeld => ?_)
        clear hK K
        refine wpAnyP_ready (rs := [16]) (by kernel_rfl) (by simp) ?_
        refine AllReadyP.cons rfl (fun K hK => ?_) AllReadyP.nil
        (refine step_snoc_g StrE (x := x) rfl _ _ rfl lo (.slice pa pn pc) pile rfl (hR6.pile) 1 _ rfl (blk_kept HBLKD.out hg6 (HNB.out _ (Nat.le_refl _))) hlen2 (hR6.lo) ?_; intro v8 w8 hrow8 hg8; obtain ⟨a8, n8, c8, rfl⟩ := hrow8.form'; obtain ⟨hR8, hB8, ht8, hc8⟩ := bg_pushed HB.out HRW.out HCB.out hR6 hB6 ht6 hc6 (Below.refl _ _) hrow8 hg8; have hS8 := bg_keep ht8 hc8 HS.out; obtain ⟨f4, k4, f5, k5, hfin⟩ := bg_stored HB.out HCB.out hR8 hB8 hc8 HRW.out.lo)
        refine hK.out _ _ (hS8) (fun hHeld => ?_)
        clear hK K
        refine puP 17 (fun _ => hHeld) ?_
        refine puP 18 (fun _ => hHeld) ?_
        refine wpAnyP_ready (rs := [19]) (by kernel_rfl) (by simp) ?_
        refine AllReadyP.last rfl (by kernel_rfl) (fun K hK => ?_) AllReadyP.nil
        go_simp
        refine hK.out _ _ (trivial) (fun hHeld => ?_)
        clear hK K
        refine puP 20 (no_phase (by kernel_rfl)) ?_
        refine puP 21 (no_phase (by kernel_rfl)) ?_
        refine wpAnyP_ready (rs := [22]) (by kernel_rfl) (by simp) ?_
        refine AllReadyP.last rfl (by kernel_rfl) (fun K hK => ?_) AllReadyP.nil
        go_simp
        refine hK.out _ _ (trivial) (fun hHeld => ?_)
        clear hK K
        refine wpAnyP_done (by kernel_rfl) ?_ _
        go_wp2_with fail
        (try simp only [Exit.jump])
        first | go_end0 | refine bodyPost_ret (results_none rfl _ _ _) rfl ?_
        rw [HX.out]
        exact ⟨rfl, _, _, hfin.1, hfin.2.1, hfin.2.2⟩
        exact AllReadyP.nil
      · have h62b : (bt s kk == 62) = false := by simpa using h62
        rw [h62b] at hi62
        go_wp2_with fail
        refine hi62.mono ?_
        rintro en w2 ⟨rfl, hBl2⟩
        have hB2 := HB1.out.on HCW.out hBl2
        have hi47 := is_any hB2.scn hks [47] (by decide)
        rw [HW47.out] at hi47
        have HB2 := Lib.hid hB2
        clear hB2 hBl2 hi62 HB1 h62b
        by_cases h47 : bt s kk = 47
        · have h47b : (bt s kk == 47) = true := by simpa using h47
          rw [h47b] at hi47
          have hkl : kk < s.size := by
            by_cases hh : kk < s.size
            · exact hh
            · rw [bt_end s (by omega)] at h47; omega
          clear h47b
          go_wp2_with fail
          refine hi47.mono ?_
          rintro en w3 ⟨rfl, hBl3⟩
          have hB3 := HB2.out.on HCW.out hBl3
          have d1 := hB3.scn.cell1
          have d0 := hB3.scn.free 1
          have f1 : IntKind.i64.wrap ((kk : Int) + 1) = ((kk + 1 : Nat) : Int) := by rw [IntWalk.i64_in _ (by omega)]; omega
          have hB4 := hB3.next HCW.out ((hB3.scn.moved (Below.refl _ _)).set (kk + 1))
          have hw62 : wdAt s (kk + 1) (([62] : List UInt8).map fun c => (c.toNat : Int)) = (bt s (kk + 1) == 62) := by simp [wdAt]
          have hi62 := is_any hB4.scn (by omega) [62] (by decide)
          rw [hw62] at hi62
          have HB4 := Lib.hid hB4
          clear hB3 hB4 hBl3 hi47 hw62
          by_cases h62n : bt s (kk + 1) = 62
          · have h62b : (bt s (kk + 1) == 62) = true := by simpa using h62n
            rw [h62b] at hi62
            have hkl2 : kk + 1 < s.size := by
              by_cases hh : kk + 1 < s.size
              · exact hh
              · rw [bt_end s (by omega)] at h62n; omega
            have HX := Lib.hid (show R = .ok (kk + 2) (x, true, l) by rw [HRE.out, begF_short HKK.out h47 h62n]; rfl)
            clear h62n h62b h47
            go_wp2_with fail
            refine hi62.mono ?_
            rintro en w5 ⟨rfl, hBl5⟩
            have hB5 := HB4.out.on HCW.out hBl5
            have e1 : w5.cell? ⟨cb, 1, none⟩ = some (.int .i64 ((kk : Int) + 1)) := hB5.scn.cell1
            have e0 := hB5.scn.free 1
            have f2 : IntKind.i64.wrap ((kk : Int) + 1 + 1) = (kk : Int) + 1 + 1 := IntWalk.i64_in _ (by omega)
            have hB6 := hB5.next HCW.out ((hB5.scn.moved (Below.refl _ _)).set (kk + 2))
            rw [show ((kk + 2 : Nat) : Int) = (kk : Int) + 1 + 1 by omega] at hB6
            have HB := Lib.hid hB6
            clear hB5 hB6 hBl5 hi62 HB4 HB2 HRE d1 d0 f1
            go_upto_region 16 with fail
            generalize w5.setCell ⟨cb, 1, none⟩ (.int .i64 ((kk : Int) + 1 + 1)) = W at *
            clear e1 e0 f2
            have hRW := HRW.out.keep HB.out.keep HCB.out
            obtain ⟨ms, hrow0, hms2, hms3⟩ := hRW.out
            have HB := Lib.hid (HB.out.on HCW.out (Below.refl W.heap.size W).drew)
            have hms3d : ∀ j (h : j < ms.length) (h' : j < out.length), TkOk lo W.drew ms[j] out[j] := fun j h h' => (hms3 j h h').later (fun _ _ _ _ => rfl)
            have hrow0d : GRow TkE lo W.drew (.slice oa on oc) ms := hrow0.on (Below.refl _ _).drew
            have hlen : ms.length ≤ 100000000 := by have := HOL.out.1; omega
            have hlen2 : pile.length ≤ 100000000 := by have := HOL.out.2; omega
            have hlot : lo ≤ tb + 1 := by have := HB.out.tb; have := HRW.out.lo; omega
            have hlod : lo ≤ W.drew.heap.size := hRW.lo
            have htok : ∀ j (h : j < ([(⟨1, x, aa, an, ac, ⟨#[]⟩, at_⟩ : TkM), ⟨2, x, none, 0, 0, ⟨#[]⟩, at_⟩]).length) (h' : j < ([(⟨1, x, l, ⟨#[]⟩, at_⟩ : Tk), ⟨2, x, [], ⟨#[]⟩, at_⟩]).length), TkOk lo W.drew ([(⟨1, x, aa, an, ac, ⟨#[]⟩, at_⟩ : TkM), ⟨2, x, none, 0, 0, ⟨#[]⟩, at_⟩])[j] ([(⟨1, x, l, ⟨#[]⟩, at_⟩ : Tk), ⟨2, x, [], ⟨#[]⟩, at_⟩])[j] := fun j h h' => by
              have hj : j = 0 ∨ j = 1 := by simp at h; omega
              rcases hj with rfl | rfl
              · exact ⟨rfl, rfl, rfl, rfl, HB.out.row.mono hlot⟩
              · exact ⟨rfl, rfl, rfl, rfl, GRow.nil _ _ _⟩
            have HS := Lib.hid (show (∀ o, W.drew.cell? ⟨tb, o, none⟩ = #[Value.int .i64 1, Value.string x, Value.slice aa an ac, Value.string ⟨#[]⟩, Value.int .i64 (at_ : Int)][o]?) ∧ W.drew.cell? ⟨cb, 4, none⟩ = some (Value.slice oa on oc) ∧ W.drew.cell? ⟨cb, 5, none⟩ = some (Value.slice pa pn pc) from ⟨fun o => cellH HB.out.tok o, HB.out.scn.cell4, HB.out.scn.cell5⟩)
            have HTZ := Lib.hid (lt_some HB.out.tok); have HCZ := Lib.hid HB.out.scn.lt
            have HROWA := Lib.hid (hrow0d.on ((Below.refl W.drew.heap.size W.drew).alloc (Nat.le_refl _) (.cells #[.int .i64 1, .string x, .slice aa an ac, .string ⟨#[]⟩, .int .i64 (at_ : Int), .int .i64 2, .string x, .slice none 0 0, .string ⟨#[]⟩, .int .i64 (at_ : Int)] 45)))
            have HBASEA := Lib.hid (show lo ≤ (W.drew.alloc (.cells #[.int .i64 1, .string x, .slice aa an ac, .string ⟨#[]⟩, .int .i64 (at_ : Int), .int .i64 2, .string x, .slice none 0 0, .string ⟨#[]⟩, .int .i64 (at_ : Int)] 45)).heap.size from Nat.le_trans hlod (by simp))
            have HTOLDA := Lib.hid (bg_told HB.out HRW.out HCB.out ((Below.refl W.drew.heap.size W.drew).alloc (Nat.le_refl _) (.cells #[.int .i64 1, .string x, .slice aa an ac, .string ⟨#[]⟩, .int .i64 (at_ : Int), .int .i64 2, .string x, .slice none 0 0, .string ⟨#[]⟩, .int .i64 (at_ : Int)] 45)) hms2 hms3d (xs := [(⟨1, x, aa, an, ac, ⟨#[]⟩, at_⟩ : TkM), ⟨2, x, none, 0, 0, ⟨#[]⟩, at_⟩]) (ts := [(⟨1, x, l, ⟨#[]⟩, at_⟩ : Tk), ⟨2, x, [], ⟨#[]⟩, at_⟩]) rfl htok)
            clear hRW hrow0 hms2 hms3 hms3d hrow0d hlot hlod htok
            refine wp_region_phase (S := fun w' => (∀ o, w'.cell? ⟨tb, o, none⟩ = #[Value.int .i64 1, Value.string x, Value.slice aa an ac, Value.string ⟨#[]⟩, Value.int .i64 (at_ : Int)][o]?) ∧ w'.cell? ⟨cb, 4, none⟩ = some (Value.slice oa on oc) ∧ w'.cell? ⟨cb, 5, none⟩ = some (Value.slice pa pn pc)) 14 (by kernel_rfl) (HS.out) (fun hHeld => ?_)
            refine puP 0 (fun _ => hHeld) ?_
            refine puP 1 (fun _ => hHeld) ?_
            refine puP 2 (fun _ => hHeld) ?_
            refine puP 3 (fun _ => hHeld) ?_
            refine tkP [14] 4 hHeld ?_
            refine tkP [14] 5 hHeld ?_
            refine puP 6 (fun _ => hHeld) ?_
            refine tkP [14] 7 hHeld ?_
            refine puP 8 (fun _ => hHeld) ?_
            refine puP 9 (fun _ => hHeld) ?_
            refine wpAnyP_ready (rs := [10]) (by kernel_rfl) (by simp) ?_
            refine AllReadyP.cons rfl (fun K hK => ?_) AllReadyP.nil
            go_simp
            refine hK.out _ _ (bg_keep (Lib.alloc_old _ _ _ HTZ.out) (Lib.alloc_old _ _ _ HCZ.out) HS.out) (fun hHeld => ?_)
            clear hK K
            refine wpAnyP_ready (rs := [11]) (by kernel_rfl) (by simp) ?_
            refine AllReadyP.cons rfl (fun K hK => ?_) AllReadyP.nil
            (refine step_more_g TkE (xs := [(⟨1, x, aa, an, ac, ⟨#[]⟩, at_⟩ : TkM), ⟨2, x, none, 0, 0, ⟨#[]⟩, at_⟩]) rfl _ _ rfl lo (.slice oa on oc) ms rfl HROWA.out 2 _ rfl (Blk.new _ _ _) hlen (by show 2 ≤ 1000; decide) HBASEA.out ?_; intro v' w6 hrow6 hg6; obtain ⟨a', n', c', rfl⟩ := hrow6.form'; obtain ⟨hR6, hB6, ht6, hc6⟩ := HTOLDA.out _ _ hrow6 hg6; have hS6 := bg_keep ht6 hc6 HS.out; obtain ⟨f4, k4, hfin⟩ := bg_stored4 HB.out HCB.out hR6 hB6 hc6 HRW.out.lo)
            refine hK.out _ _ (hS6) (fun hHeld => ?_)
            clear hK K
            refine puP 12 (fun _ => hHeld) ?_
            refine puP 13 (fun _ => hHeld) ?_
            refine wpAnyP_ready (rs := [14]) (by kernel_rfl) (by simp) ?_
            refine AllReadyP.last rfl (by kernel_rfl) (fun K hK => ?_) AllReadyP.nil
            go_simp
            refine hK.out _ _ (trivial) (fun hHeld => ?_)
            clear hK K
            refine wpAnyP_done (by kernel_rfl) ?_ _
            go_wp2_with fail
            (try simp only [Exit.jump])
            first | go_end0 | refine bodyPost_ret (results_none rfl _ _ _) rfl ?_
            rw [HX.out]
            exact ⟨rfl, _, _, hfin.1, hfin.2.1, hfin.2.2⟩
          · have h62b : (bt s (kk + 1) == 62) = false := by simpa using h62n
            rw [h62b] at hi62
            have HX := Lib.hid (show R = .bad 140 (kk + 1) by rw [HRE.out, begF_sbad HKK.out h47 h62n]; rfl)
            clear h62n h62b h47
            go_wp2_with fail
            refine hi62.mono ?_
            rintro en w5 ⟨rfl, hBl5⟩
            have hB5 := HB4.out.on HCW.out hBl5
            have e1 : w5.cell? ⟨cb, 1, none⟩ = some (.int .i64 ((kk : Int) + 1)) := hB5.scn.cell1
            have hwf := wrong_first hB5.scn 140 ((kk + 1 : Nat) : Int)
            rw [show ((kk + 1 : Nat) : Int) = (kk : Int) + 1 by omega] at hwf
            have hB6 := hB5.next HCW.out ⟨hB5.scn.mark 140 ((kk + 1 : Nat) : Int), ((KeepX.refl _ cb _).setCell 2 (.int .i64 140)).setCell 3 (.int .i64 ((kk + 1 : Nat) : Int))⟩
            have HB6 := Lib.hid hB6
            clear hB5 hB6 hBl5 hi62 d1 d0 f1
            go_wp2_with fail
            refine hwf.mono ?_
            rintro en w' ⟨rfl, rfl⟩
            clear hwf
            go_wp2_with fail
            first | go_end0 | refine bodyPost_ret (results_none rfl _ _ _) rfl ?_
            rw [HX.out]
            exact ⟨by decide, rfl, kk + 1, hkl, HB6.out.scn, HB6.out.keep⟩
        · have h47b : (bt s kk == 47) = false := by simpa using h47
          rw [h47b] at hi47
          by_cases hkp : kk = p
          · have HX := Lib.hid (show R = .bad 140 kk by rw [HRE.out, begF_nob HKK.out h62 h47 hkp]; rfl)
            have hdk : decide (p < kk) = false := decide_eq_false (by omega)
            clear h62 h47 h47b hkp
            go_wp2_with fail
            refine hi47.mono ?_
            rintro en w3 ⟨rfl, hBl3⟩
            have hB3 := HB2.out.on HCW.out hBl3
            have d1 := hB3.scn.cell1
            have hwf := wrong_first hB3.scn 140 (kk : Int)
            have hB6 := hB3.next HCW.out ⟨hB3.scn.mark 140 (kk : Int), ((KeepX.refl _ cb _).setCell 2 (.int .i64 140)).setCell 3 (.int .i64 (kk : Int))⟩
            have HB6 := Lib.hid hB6
            try rw [hdk]
            clear hB3 hB6 hBl3 hi47 hdk
            go_wp2_with fail
            refine hwf.mono ?_
            rintro en w' ⟨rfl, rfl⟩
            clear hwf
            go_wp2_with fail
            first | go_end0 | refine bodyPost_ret (results_none rfl _ _ _) rfl ?_
            rw [HX.out]
            exact ⟨by decide, rfl, kk, hks, HB6.out.scn, HB6.out.keep⟩
          · have hx := HRE.out.trans (congrArg (begR x) (begF_attr HKK.out h62 h47 hkp))
            have hdk : decide (p < kk) = true := decide_eq_true (by have := HKP.out; omega)
            have HX := Lib.hid hx; have HNE := Lib.hid hkp
            clear hx h62 h47 h47b hkp
            go_wp2_with fail
            refine hi47.mono ?_
            rintro en w3 ⟨rfl, hBl3⟩
            have hB3 := HB2.out.on HCW.out hBl3
            have HB := Lib.hid hB3
            try rw [hdk]
            clear hB3 hBl3 hi47 hdk HB2
            go_upto_region 19 with fail
            have HBD := Lib.hid (HB.out.on HCW.out (Below.refl w3.heap.size w3).drew)
            have hSd : ∀ o, w3.drew.cell? ⟨tb, o, none⟩ = #[Value.int .i64 1, Value.string x, Value.slice aa an ac, Value.string ⟨#[]⟩, Value.int .i64 (at_ : Int)][o]? := fun o => cellH HBD.out.tok o
            have hll2 : l.length ≤ 100000000 := by have := HG.out.2.2; omega
            have HAT := Lib.hid (rAttr_any HBD.out.scn hks hz (.slice aa an ac) l HBD.out.row (by have := HBD.out.tb; have := HCW.out; omega) (by have := HG.out.2.2; omega))
            have HAE := Lib.hid (show ∀ en w5, SEnd (attrX s kk l) (fun a : At2 => Value.agg #[.string a.1, .string a.2]) cb s (.slice oa on oc) (.slice pa pn pc) tv c7 w3.drew en w5 → ∃ (y : At2) (e5 a5 : Int) (q5 : Nat), en = .returned (.agg #[.string y.1, .string y.2]) ∧ ScnM cb s e5 a5 (.slice oa on oc) (.slice pa pn pc) tv c7 w3.drew q5 w5 ∧ ((e5 = 0 ∧ a5 = 0 ∧ attrX s kk l = .ok q5 y) ∨ (∃ ab : Nat, a5 = (ab : Int) ∧ e5 ≠ 0 ∧ q5 ≤ s.size ∧ attrX s kk l = .bad e5 ab)) from fun en w5 hE => by
              unfold SEnd at hE
              cases hax : attrX s kk l with
              | bad ee aaa =>
                rw [hax] at hE
                obtain ⟨hee, ⟨y, hy⟩, q, hq, hM⟩ := hE
                exact ⟨y, ee, aaa, q, hy, hM, .inr ⟨aaa, rfl, hee, hq, rfl⟩⟩
              | ok q y =>
                rw [hax] at hE
                exact ⟨y, 0, 0, q, hE.1, hE.2, .inl ⟨rfl, rfl, rfl⟩⟩)
            refine wp_region_phase (S := fun w' => ∀ o, w'.cell? ⟨tb, o, none⟩ = #[Value.int .i64 1, Value.string x, Value.slice aa an ac, Value.string ⟨#[]⟩, Value.int .i64 (at_ : Int)][o]?) 9 (by kernel_rfl) (hSd) (fun hHeld => ?_)
            refine puP 0 (fun _ => hHeld) ?_
            refine tkP [9] 1 hHeld ?_
            refine puP 2 (fun _ => hHeld) ?_
            refine puP 3 (fun _ => hHeld) ?_
            refine tkP [9] 4 hHeld ?_
            refine wpAnyP_ready (rs := [5]) (by kernel_rfl) (by simp) ?_
            refine AllReadyP.cons rfl (fun K hK => ?_) AllReadyP.nil
            go_simp
            go_wp2_with (go_at_call 62; refine HAT.out.mono ?_; intro en w5 hE; obtain ⟨y, e5, a5, q5, rfl, hM5, hcase⟩ := HAE.out _ _ hE; have hB5 := HBD.out.next HCW.out hM5; have hS5 : ∀ o, w5.cell? ⟨tb, o, none⟩ = #[Value.int .i64 1, Value.string x, Value.slice aa an ac, Value.string ⟨#[]⟩, Value.int .i64 (at_ : Int)][o]? := fun o => cellH hB5.tok o)
            refine hK.out _ _ (hS5) (fun hHeld => ?_)
            clear hK K
            refine wpAnyP_ready (rs := [6]) (by kernel_rfl) (by simp) ?_
            refine AllReadyP.cons rfl (fun K hK => ?_) AllReadyP.nil
            go_simp
            refine hK.out _ _ (fun o => cellH ((Lib.alloc_old _ _ _ (lt_some hB5.tok)).trans hB5.tok) o) (fun hHeld => ?_)
            clear hK K
            refine wpAnyP_ready (rs := [7]) (by kernel_rfl) (by simp) ?_
            refine AllReadyP.cons rfl (fun K hK => ?_) AllReadyP.nil
            (refine step_snoc_g AtE (x := y) rfl _ _ rfl (tb + 1) (.slice aa an ac) l rfl (hB5.row.on ((Below.refl _ _).alloc (Nat.le_refl _) _)) 1 _ rfl (Blk.new _ _ _) hll2 (Nat.le_trans (lt_some hB5.tok) (by simp)) ?_; intro v' w6 hrow6 hg6; obtain ⟨a', n', c', rfl⟩ := hrow6.form'; obtain ⟨f2, k2, hB6, hS6⟩ := hB5.grow HCW.out hrow6 hg6)
            refine hK.out _ _ (hS6) (fun hHeld => ?_)
            clear hK K
            refine puP 8 (fun _ => hHeld) ?_
            refine wpAnyP_ready (rs := [9]) (by kernel_rfl) (by simp) ?_
            refine AllReadyP.last rfl (by kernel_rfl) (fun K hK => ?_) AllReadyP.nil
            go_simp
            refine hK.out _ _ (trivial) (fun hHeld => ?_)
            clear hK K
            refine wpAnyP_done (by kernel_rfl) ?_ _
            rcases hcase with ⟨rfl, rfl, hax⟩ | ⟨ab, rfl, hee, hq5, hax⟩
            · have hin := attrX_in hax hks
              have hxx := HX.out
              rw [hax] at hxx
              have HXX := Lib.hid (show R = begR x (begF s g q5 (l ++ [y])) from hxx)
              have HIN := Lib.hid hin; have HB6 := Lib.hid hB6
              clear hax hin hxx hB6 hHeld hB5 hS5 hM5 hS6 f2 k2 hrow6 hg6
              go_wp2_with fail
              go_roundg (s.size + 2 - q5)
              case rel => exact ⟨_, _, .inl ⟨q5, g, by have := HIN.out; omega, HIN.out.2.1, by have := HIN.out; have := HG.out; have := HKP.out; omega, by rw [List.length_append, List.length_singleton]; have := HIN.out; have := HG.out; omega, HXX.out, HB6.out⟩⟩
              case measure => have := HIN.out; have := HG.out; have := HKP.out; omega
            · have hxx := HX.out
              rw [hax] at hxx
              have HXX := Lib.hid (show R = .bad e5 ab from hxx)
              have HB6 := Lib.hid hB6; have HE5 := Lib.hid hee
              clear hax hxx hB6 hHeld hB5 hS5 hM5 hS6 f2 k2 hrow6 hg6 hee
              go_wp2_with fail
              go_roundg 0
              case rel => exact ⟨_, _, .inr ⟨e5, ab, q5, HE5.out, HXX.out, hq5, HB6.out⟩⟩
              case measure => have := HG.out; omega
    · have hbd := bad_yes hB.scn he
      have HX := Lib.hid hx; have HB := Lib.hid hB; have HE := Lib.hid he
      clear hx hB he
      go_wp2_with fail
      refine hbd.mono ?_
      rintro en w' ⟨rfl, rfl⟩
      go_wp2_with fail
      first | go_end0 | skip
      rw [HX.out]
      exact ⟨HE.out, rfl, q, hq, HB.out.scn, HB.out.keep⟩
end
end Go.Proofs.YtnmpbphnfiiafaaGreatDoor
