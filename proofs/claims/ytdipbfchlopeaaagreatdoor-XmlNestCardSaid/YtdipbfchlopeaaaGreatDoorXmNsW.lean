/-
  The walk of XmlNest: it returns true for every text.
-/
import Derived.Test.YtdipbfchlopeaaaGreatDoorXnN
import Derived.Test.YtdipbfchlopeaaaGreatDoorXnM
namespace Go.Proofs.YtdipbfchlopeaaaGreatDoor
open Go.RowKit Go.PlainAid

/-- What holds while the tokens are gone through. -/
structure NsR (lo : Nat) (w2 : World) (s : ByteArray) (L : List Tk) (i : Nat) (pile : List ByteArray) (k : Int) (at_ : Nat) (pv : Value) (wx : World) : Prop where
  b : Below lo w2 wx
  p : GRow StrE lo wx pv pile
  may : tksMay pile k (L.drop i) = true
  lng : tksLong pile (L.drop i) = false
  ris : Rises s at_ (L.drop i)
  pl : pile.length ≤ 64
  z0 : i = 0 → pile = [] ∧ k = 0
  z1 : 0 < i → k ≠ 0 ∧ ∃ h : i - 1 < L.length, L[i - 1].kind = k
/-- Names of attributes that were read differ. -/
theorem attrs_apart : ∀ {l m : List At2}, attrsOk m l = true → ∀ (k j : Nat) (hk : k < l.length) (hj : j < k), l[j].1 ≠ l[k].1
  | [], _, _, k, _, hk, _ => absurd hk (by simp)
  | a :: l, m, h, 0, j, _, hj => absurd hj (by omega)
  | a :: l, m, h, k + 1, 0, hk, _ => by
    unfold attrsOk at h
    simp only [Bool.and_eq_true] at h
    intro e
    have key : ∀ {l : List At2} {m : List At2}, attrsOk m l = true → a ∈ m → ∀ (k : Nat) (hk : k < l.length), a.1 ≠ l[k].1 := by
      intro l
      induction l with
      | nil => intro m _ _ k hk; simp at hk
      | cons b l ih =>
        intro m h ha k hk
        unfold attrsOk at h
        simp only [Bool.and_eq_true] at h
        cases k with
        | zero =>
          intro e
          have h2 := h.1.2
          simp only [Bool.not_eq_true', List.any_eq_false, decide_eq_true_eq] at h2
          exact h2 a ha e
        | succ k => exact ih h.2 (List.mem_append.2 (.inl ha)) k (by simpa using hk)
    exact key h.2 (by simp) k (by simpa using hk) (by simpa using e)
  | a :: l, m, h, k + 1, j + 1, hk, hj => by
    unfold attrsOk at h
    simp only [Bool.and_eq_true] at h
    have := attrs_apart h.2 k j (by simpa using hk) (by omega)
    simpa using this
theorem tkKind {pile : List ByteArray} {k : Int} {t : Tk} (h : tkMay pile k t = true) : t.kind ≠ 0 := by
  rcases tkMay_cases h with ⟨h, _⟩ | ⟨h, _⟩ | ⟨h, _⟩ <;> omega
/-- The next token's state. -/
theorem NsR.next {lo i : Nat} {w2 wx wy : World} {s : ByteArray} {L : List Tk} {pile : List ByteArray} {k : Int} {at_ : Nat} {pv pv' : Value} (h : NsR lo w2 s L i pile k at_ pv wx) (hi : i < L.length) (hB : Below lo w2 wy) (hp : GRow StrE lo wy pv' (tkPile pile L[i])) :
    NsR lo w2 s L (i + 1) (tkPile pile L[i]) L[i].kind L[i].at_ pv' wy := by
  have hd : L.drop i = L[i] :: L.drop (i + 1) := List.drop_eq_getElem_cons hi
  have h1 := h.may
  have h2 := h.lng
  have h3 := h.ris
  rw [hd] at h1 h2 h3
  have h1 : (tkMay pile k L[i] && tksMay (tkPile pile L[i]) L[i].kind (L.drop (i + 1))) = true := h1
  have h2 : (tkLong pile L[i] || tksLong (tkPile pile L[i]) (L.drop (i + 1))) = false := h2
  rw [Bool.and_eq_true] at h1
  rw [Bool.or_eq_false_iff] at h2
  refine ⟨hB, hp, h1.2, h2.2, h3.2.2.2, ?_, fun h => by omega, fun _ => ⟨tkKind h1.1, by simpa using hi, rfl⟩⟩
  have hl := h2.1
  unfold tkPile
  unfold tkLong at hl
  have hpl := h.pl
  split
  · rename_i hk
    rw [if_pos hk] at hl
    simp only [Bool.or_eq_false_iff, decide_eq_false_iff_not] at hl
    rw [List.length_append, List.length_singleton]
    omega
  · split
    · rw [List.length_dropLast]; omega
    · exact hpl
theorem below_grown {lo : Nat} {w wc w9 : World} {o : Obj} {own : Option Nat} (h : Below lo w wc) (hlo : lo ≤ wc.heap.size) (ho : ∀ k, own = some k → lo ≤ k) (hg : (wc.alloc o).grownBy w9 own) : Below lo w w9 :=
  ⟨hg.os.trans h.os, hg.tape.trans h.tape, hg.output.trans h.output, Nat.le_trans h.size (Nat.le_trans (by simp) hg.size), fun k hk => ((hg.block k (by simp; omega) (fun e => by have := ho k e.symm; omega)).trans (Lib.alloc_old wc _ k (by omega))).trans (h.block k hk)⟩
theorem row_pop {lo pg n pc : Nat} {w : World} {pile : List ByteArray} (h : GRow StrE lo w (.slice (some ⟨pg, 0, none⟩) (n + 1) pc) pile) : GRow StrE lo w (.slice (some ⟨pg, 0, none⟩) n pc) pile.dropLast := by
  have hlen : pile.length = n + 1 := by
    obtain ⟨a, c, e⟩ := h.form
    injection e with _ e _
    exact e.symm
  obtain ⟨p, x, rfl⟩ : ∃ p x, pile = p ++ [x] := ⟨pile.dropLast, pile.getLast (by intro e; rw [e] at hlen; simp at hlen), (List.dropLast_concat_getLast _).symm⟩
  rw [List.length_append, List.length_singleton] at hlen
  have hn : p.length = n := by omega
  subst hn
  rw [List.dropLast_concat]
  unfold GRow at h ⊢
  rw [List.length_append, List.length_singleton, show StrE.cs (p ++ [x]) = StrE.cs p ++ [.string x] by simp [ETy.cs, StrE]] at h
  exact ownsRow_pop (by rw [ETy.cs_len]) h
set_option maxRecDepth 100000
set_option maxHeartbeats 16000000
theorem xmlNest_walk (s : ByteArray) (w : World) (_ : s.size ≤ 140737488351232) (hG : Gl w) :
    Calls Tryz.prog 5 #[.string s] w fun e w' => e = .returned (.bool true) ∧ Below w.heap.size w w' := by
  have HWK := Lib.hid (wakes_any w hG)
  have HG := Lib.hid hG
  clear hG
  go_enter Tryz.func5, Tryz.ntmps5
  go_wp2_with fail
  refine HWK.out.mono ?_
  rintro e w1 ⟨rfl, hB1⟩
  have htok := tokens_any s w1 (HG.out.on hB1)
  have HTOK := Lib.hid htok; have HB1 := Lib.hid hB1
  clear htok hB1
  go_wp2_with fail
  refine HTOK.out.mono ?_
  intro en w2 hE
  obtain ⟨v, rfl, hO, hB2⟩ := hE.read
  clear hE HTOK
  have hB12 := HB1.out.trans (hB2.mono HB1.out.size)
  obtain ⟨ee, hee⟩ : ∃ e, tkE s = e := ⟨_, rfl⟩
  obtain ⟨ea, hea⟩ : ∃ e, tkA s = e := ⟨_, rfl⟩
  obtain ⟨L, hL⟩ : ∃ l, tkL s = l := ⟨_, rfl⟩
  rw [hee, hea]
  rw [hL] at hO
  have HO := Lib.hid hO; have HB12 := Lib.hid hB12; have HEE := Lib.hid hee; have HEA := Lib.hid hea; have HL := Lib.hid hL
  clear hO hB12 hB2 hee hea hL
  go_upto_region 4 with fail
  have hA := (Below.refl w2.heap.size w2).alloc (Nat.le_refl _) (.cells #[.int .i64 ee, .int .i64 ea] 34)
  have hT := Blk.new w2 #[.int .i64 ee, .int .i64 ea] 34
  have HB3 := Lib.hid (HB12.out.trans (hA.mono HB12.out.size))
  have HO3 := Lib.hid (show OutAt w1.heap.size (w2.alloc (.cells #[.int .i64 ee, .int .i64 ea] 34)) v L from by
    obtain ⟨ms, h1, h2, h3⟩ := HO.out
    exact ⟨ms, h1.on hA, h2, fun j hj hj' => ⟨(h3 j hj hj').kind, (h3 j hj hj').name, (h3 j hj hj').text, (h3 j hj hj').at_, (h3 j hj hj').attrs.on hA⟩⟩)
  clear HO
  generalize w2.alloc (.cells #[.int .i64 ee, .int .i64 ea] 34) = w3 at *
  generalize w2.heap.size = sb at *
  have c0 : w3.cell? ⟨sb, 0, none⟩ = some (.int .i64 ee) := hT.cell 0
  have c1 : w3.cell? ⟨sb, 1, none⟩ = some (.int .i64 ea) := hT.cell 1
  clear hA hT
  obtain ⟨oa, on, oc, rfl⟩ : ∃ a n c, v = .slice a n c := by
    obtain ⟨ms, h1, _⟩ := HO3.out
    exact h1.form'
  have hon : L.length = on := by
    obtain ⟨ms, h1, h2, _⟩ := HO3.out
    obtain ⟨a, c, e⟩ := h1.form
    injection e with _ e _
    omega
  have HON := Lib.hid hon
  clear hon
  cases htx : tokensX s with
  | bad e0 a0 =>
    have hb := tokens_bad htx
    have he : ee = e0 := by rw [← HEE.out]; unfold tkE; rw [htx]
    have ha : ea = (a0 : Int) := by rw [← HEA.out]; unfold tkA; rw [htx]
    have hl : on = 0 := by rw [← HON.out, ← HL.out]; unfold tkL; rw [htx]; rfl
    subst he ha hl
    have hne : (ee == 0) = false := by simpa using hb.1
    have hne2 : (ee != 0) = true := by simpa using hb.1
    have h0 : ¬ ee = 0 := hb.1
    have ha0 : (0 : Int) ≤ (a0 : Int) := by omega
    have ha1 : (a0 : Int) ≤ (s.size : Int) := by omega
    clear htx hb
    go_wp2_with fail
    go_ret
    exact ⟨rfl, HB3.out⟩
  | ok z0 L0 =>
    have hnest := tokens_nest htx
    have hprint := nest_print htx
    have he : ee = 0 := by rw [← HEE.out]; unfold tkE; rw [htx]
    have hLL : L0 = L := by rw [← HL.out]; unfold tkL; rw [htx]
    subst hLL he
    obtain ⟨n1, n2, n3, n4, n5⟩ := hnest
    have hss : s.size ≤ 262144 := by
      unfold tokensX at htx
      split at htx
      · cases htx
      · omega
    have hpr := print_any
    have HPRT := Lib.hid (fun W (hW : WIn W (.slice oa on oc) L0) => print_any W (.slice oa on oc) L0 hW (fun t ht => by have := n5 t ht; omega) (by omega) (by
      have h1 := tksD_len L0
      have h2 := wtL_all (f := wtT) (k := 200000) (l := L0) (fun t ht => by have := n5 t ht; unfold wtT; omega)
      have h3 : 200000 * L0.length ≤ 200000 * 262144 := Nat.mul_le_mul_left _ (by omega)
      omega))
    have hno0 : L0 ≠ [] := by intro e; rw [e] at n1; exact absurd n1 (by decide)
    have hlo3 := HB3.out.size
    have h0 : NsR w3.heap.size w3 s L0 0 [] 0 0 (.slice none 0 0) w3 := ⟨Below.refl _ _, GRow.nil _ _ _, by simpa using n1, by simpa using n2, by simpa using n3, by simp, fun _ => ⟨rfl, rfl⟩, fun h => by omega⟩
    have H0 := Lib.hid h0
    have HNO := Lib.hid hno0; have HPRI := Lib.hid hprint; have HN5 := Lib.hid n5
    have hn4 : on ≤ 262144 := by have := HON.out; omega
    clear htx n1 n2 n3 n4 n5 hno0 hprint h0 hpr HEE HEA HL
    go_wp2_with (fail)
    go_loopg [5, 6, 42] (on + 1) (fun f s5 s6 s42 wx => ∃ (i : Nat) (pile : List ByteArray) (k : Int) (at_ : Nat), s6 = .int .i64 (at_ : Int) ∧ s42 = .int .i64 (i : Int) ∧ f + i = on + 1 ∧ i ≤ on ∧ NsR w3.heap.size w3 s L0 i pile k at_ s5 wx)
    case atStart => exact ⟨0, [], 0, 0, rfl, rfl, rfl, Nat.zero_le _, H0.out⟩
    case round =>
      clear c0 c1 H0
      obtain ⟨i, pile, k, at_, rfl, rfl, hg, hi, hR⟩ := hrel
      obtain ⟨pa, pn, pc, hpv⟩ := hR.p.form'
      subst hpv
      have hpn : pile.length = pn := by
        obtain ⟨a, c, e⟩ := hR.p.form
        injection e with _ e _
        exact e.symm
      have HG := Lib.hid hg; have HR := Lib.hid hR; have HPN := Lib.hid hpn
      have hi0 : (0 : Int) ≤ i := by omega
      by_cases hlt : i < on
      · have f1 : IntKind.i64.wrap ((i : Int) + 1) = (i : Int) + 1 := IntWalk.i64_in _ (by omega)
        have hiI : (i : Int) < on := by omega
        have hil : i < L0.length := by have := HON.out; omega
        have hd : L0.drop i = L0[i] :: L0.drop (i + 1) := List.drop_eq_getElem_cons hil
        have hm1 := hR.may
        have hl1 := hR.lng
        have hr1 := hR.ris
        rw [hd] at hm1 hl1 hr1
        replace hm1 : (tkMay pile k L0[i] && tksMay (tkPile pile L0[i]) L0[i].kind (L0.drop (i + 1))) = true := hm1
        replace hl1 : (tkLong pile L0[i] || tksLong (tkPile pile L0[i]) (L0.drop (i + 1))) = false := hl1
        rw [Bool.and_eq_true] at hm1
        rw [Bool.or_eq_false_iff] at hl1
        have hmay := hm1.1
        have hlong := hl1.1
        obtain ⟨r1, r2, r3, r4⟩ := hr1
        have HNEXT := Lib.hid (fun wy pv' hB hp => hR.next (wy := wy) (pv' := pv') hil hB hp)
        have hb := hR.b
        have HOUT := HO3.out
        obtain ⟨ms, hrow, hml, hms⟩ := HOUT
        have him : i < ms.length := by omega
        have hrd := hrow.read
        rcases hrd with ⟨e1, _⟩ | ⟨g, cap, e1, _, hg2, _, _, hc⟩
        · rw [e1] at him; simp at him
        injection e1 with e1 e2 e3
        subst e1 e3
        clear e2
        have t1 := hms i him hil
        have hprev : 0 < i → ∀ W, Below w3.heap.size w3 W → W.cell? ⟨g, (i - 1) * 5, none⟩ = some (.int .i64 k) := fun h W hW => by
          obtain ⟨_, hj, hk⟩ := hR.z1 h
          have hx := hc (i - 1) (by omega) 0 (by decide)
          have hy := (hms (i - 1) (by omega) hj).kind
          have := cell_kept hx hW
          rw [← hk, ← hy]
          simpa [TkE] using this
        have HPREV := Lib.hid hprev
        obtain ⟨t, htt⟩ : ∃ t, L0[i] = t := ⟨_, rfl⟩
        obtain ⟨m, hm⟩ : ∃ m, ms[i] = m := ⟨_, rfl⟩
        rw [htt] at t1 hmay hlong r1 r2 r3 HNEXT
        have hci := hc i him
        rw [hm] at t1 hci
        obtain ⟨kd, nm, ta, tn, tc, tx, tat⟩ := m
        obtain ⟨e1, e2, e3, e4, e5⟩ := t1
        simp only at e1 e2 e3 e4 e5
        subst e1 e2 e3 e4
        have hcell : ∀ (j : Nat) (u : Value), j < 5 → (TkE.enc ⟨t.kind, t.name, ta, tn, tc, t.text, t.at_⟩)[j]? = some u → wr.cell? ⟨g, i * 5 + j, none⟩ = some u := fun j u hj hu => cell_kept ((hci j hj).trans hu) hb
        have d0 : wr.cell? ⟨g, i * 5, none⟩ = some (.int .i64 t.kind) := hcell 0 _ (by decide) rfl
        have d1 : wr.cell? ⟨g, i * 5 + 1, none⟩ = some (.string t.name) := hcell 1 _ (by decide) rfl
        have d2 : wr.cell? ⟨g, i * 5 + 2, none⟩ = some (.slice ta tn tc) := hcell 2 _ (by decide) rfl
        have d3 : wr.cell? ⟨g, i * 5 + 3, none⟩ = some (.string t.text) := hcell 3 _ (by decide) rfl
        have d4 : wr.cell? ⟨g, i * 5 + 4, none⟩ = some (.int .i64 (t.at_ : Int)) := hcell 4 _ (by decide) rfl
        have hAT : GAt AtE w3 (.slice ta tn tc) t.attrs := e5.at'
        have hatn : t.attrs.length = tn := by
          obtain ⟨a, c, e⟩ := hAT
          injection e.1 with _ e _
          exact e.symm
        have HCAP := Lib.hid (show tn ≤ tc ∧ tc ≤ maxLen from by
          rcases e5.read with ⟨_, e⟩ | ⟨_, _, e, _, _, h1, h2, _⟩
          · injection e with _ e1 e2
            subst e1 e2
            exact ⟨Nat.le_refl _, by simp⟩
          · injection e with _ e1 e2
            subst e1 e2
            exact ⟨h1, h2⟩)
        have hslim := HN5.out t (by rw [← htt]; exact List.getElem_mem _)
        have htn : tn ≤ 100000 := by have := wtL_len (f := wtAt) (k := 3) (fun x => by unfold wtAt; omega) t.attrs; omega
        have hAL : Below wr.heap.size wr (wr.alloc (.cells #[.int .i64 t.kind, .string t.name, .slice ta tn tc, .string t.text, .int .i64 (t.at_ : Int)] 27)) := (Below.refl _ _).alloc (Nat.le_refl _) _
        have hTB : Blk (wr.alloc (.cells #[.int .i64 t.kind, .string t.name, .slice ta tn tc, .string t.text, .int .i64 (t.at_ : Int)] 27)) wr.heap.size #[.int .i64 t.kind, .string t.name, .slice ta tn tc, .string t.text, .int .i64 (t.at_ : Int)] := Blk.new _ _ _
        have HB8 := Lib.hid (hb.trans (hAL.mono hb.size)); have HP8 := Lib.hid (hR.p.on hAL); have HTB := Lib.hid hTB
        have HLT8 := Lib.hid (show ∀ k, (Value.slice pa pn pc).ownBlock = some k → k < wr.heap.size from hR.p.lt)
        have HZ8 := Lib.hid (show w3.heap.size ≤ wr.heap.size ∧ wr.heap.size < (wr.alloc (.cells #[.int .i64 t.kind, .string t.name, .slice ta tn tc, .string t.text, .int .i64 (t.at_ : Int)] 27)).heap.size from ⟨hb.size, by simp⟩)
        have HMAY := Lib.hid hmay; have HLONG := Lib.hid hlong; have HAT := Lib.hid hAT; have HATN := Lib.hid hatn; have HLT := Lib.hid hlt; have HR3 := Lib.hid r3
        have q1 : ¬ ((t.at_ : Int) < (at_ : Int)) := by omega
        have q2 : ¬ ((s.size : Int) ≤ (t.at_ : Int)) := by omega
        have q3 : 0 < i → pn ≠ 0 := fun h e => by
          have hp0 : pile = [] := List.eq_nil_of_length_eq_zero (by have := HPN.out; omega)
          have hk0 := (hR.z1 h).1
          rcases tkMay_cases hmay with ⟨_, h2, _⟩ | ⟨_, h2, _⟩ | ⟨_, h2, _⟩
          · rcases h2 with h2 | h2
            · exact h2 hp0
            · exact hk0 h2
          · exact h2 hp0
          · exact h2 hp0
        have hpl := hR.pl
        have hpn64 : pn ≤ 64 := by have := HPN.out; omega
        have HZ0 := Lib.hid hR.z0
        clear hd hm1 hl1 r4 hrow hml hms hm htt him hc hg2 hci hcell hAT hAL hTB hmay hlong hatn hb hprev hslim r1 hR hg hi hlt hpn e5 r3 hil hpl
        go_upto_region 11 with fail
        generalize hw8 : wr.alloc (.cells #[.int .i64 t.kind, .string t.name, .slice ta tn tc, .string t.text, .int .i64 (t.at_ : Int)] 27) = w8 at *
        generalize htb : wr.heap.size = tb at *
        clear hw8 d0 d1 d2 d3 d4 htb
        have b0 : w8.cell? ⟨tb, 0, none⟩ = some (.int .i64 t.kind) := HTB.out.cell 0
        have b1 : w8.cell? ⟨tb, 1, none⟩ = some (.string t.name) := HTB.out.cell 1
        have b2 : w8.cell? ⟨tb, 2, none⟩ = some (.slice ta tn tc) := HTB.out.cell 2
        have b3 : w8.cell? ⟨tb, 3, none⟩ = some (.string t.text) := HTB.out.cell 3
        have b4 : w8.cell? ⟨tb, 4, none⟩ = some (.int .i64 (t.at_ : Int)) := HTB.out.cell 4
        go_cut [66] (fun s66 wx => s66 = .bool false ∧ wx = w8)
        case first =>
          by_cases hz : i = 0
          · have hzI : ¬ (0 : Int) < (i : Int) := by omega
            clear hz q3
            go_wp2_with fail
            go_meet
            case rel => exact ⟨rfl, rfl⟩
          · have hzI : (0 : Int) < (i : Int) := by omega
            have hq := q3 (by omega)
            have hqI : ¬ (pn : Int) = 0 := by omega
            have hqb : ((pn : Int) == 0) = false := by simpa using hqI
            go_wp2_with fail
            go_meet
            case rel => exact ⟨rfl, rfl⟩
        case rest =>
        obtain ⟨rfl, rfl⟩ := hcut
        have HQ3 := Lib.hid q3
        clear q1 q3
        rcases tkMay_cases HMAY.out with ⟨hk, hcc, hnm, hok⟩ | ⟨hk, hcc, htop⟩ | ⟨hk, hcc, hah, htz, htk⟩
        · -- a begin
          have h60 := HR3.out hk
          have hpp : tkPile pile t = pile ++ [t.name] := by unfold tkPile; rw [if_pos hk]
          rw [hpp] at HNEXT
          have h64 : pn ≠ 64 := by
            have h := HLONG.out
            unfold tkLong at h
            rw [if_pos hk] at h
            simp only [Bool.or_eq_false_iff, decide_eq_false_iff_not] at h
            have := HPN.out
            omega
          rw [hk] at b0 HNEXT
          have hbt := get_bt s
          have HOK := Lib.hid hok
          have hrowB := HP8.out.on ((Below.refl _ _).alloc (Nat.le_refl _) (.cells #[.string t.name] 9))
          have HROW := Lib.hid hrowB
          have h64b : ¬ (64 : Int) < (pn : Int) + 1 := by omega
          have hlen : pile.length ≤ 100000000 := by have := HPN.out; omega
          have hz8 : w3.heap.size ≤ (wc.alloc (.cells #[.string t.name] 9)).heap.size := by have := HZ8.out; simp; omega
          clear hcc hnm hok hk hrowB HMAY HLONG
          go_upto_region 17 with fail
          go_cut [5] (fun s5 wx => ∃ a' c', s5 = .slice a' (pn + 1) c' ∧ GRow StrE w3.heap.size wx (.slice a' (pn + 1) c') (pile ++ [t.name]) ∧ Blk wx tb #[.int .i64 t.kind, .string t.name, .slice ta tn tc, .string t.text, .int .i64 (t.at_ : Int)] ∧ Below w3.heap.size w3 wx)
          case first =>
            go_wp2_with (at_builtin; go_must (refine wpList_snoc_g StrE (x := t.name) rfl _ _ rfl w3.heap.size (.slice pa pn pc) pile rfl HROW.out 1 _ rfl (Blk.new _ _ _) hlen hz8 ?_); intro v' w9 hrow9 hg9; obtain ⟨a', n', c', rfl⟩ := hrow9.form')
            have hn' : n' = pn + 1 := by
              obtain ⟨a, c, e⟩ := hrow9.form
              injection e with _ e _
              rw [e, List.length_append, List.length_singleton, HPN.out]
            subst hn'
            go_meet
            case rel => exact ⟨a', c', rfl, hrow9, blk_grown hg9 (HTB.out.alloc _) (fun e => by have := HLT8.out tb e; omega), below_grown HB8.out HB8.out.size HP8.out.own hg9⟩
          case rest =>
          obtain ⟨a', c', rfl, hrow9, hT9, hB9⟩ := hcut
          obtain ⟨w9, hw9⟩ : ∃ x, wc = x := ⟨_, rfl⟩
          rw [hw9] at hrow9 hT9 hB9 ⊢
          clear hw9
          have HT9 := Lib.hid hT9; have HB9 := Lib.hid hB9; have HROW9 := Lib.hid hrow9
          have x4 : w9.cell? ⟨tb, 4, none⟩ = some (.int .i64 (t.at_ : Int)) := hT9.cell 4
          have x2 : w9.cell? ⟨tb, 2, none⟩ = some (.slice ta tn tc) := hT9.cell 2
          have hnI : ¬ (64 : Int) < (pn : Int) + 1 := by omega
          have hsI : (t.at_ : Int) < (s.size : Int) := by omega
          have ha0 : (0 : Int) ≤ (t.at_ : Int) := by omega
          clear b0 b1 b2 b3 b4 hT9 hB9 hrow9 HROW
          go_wp2_with fail
          go_loopg [91] (tn + 1) (fun f s91 wx => ∃ j : Nat, s91 = .int .i64 (j : Int) ∧ f + j = tn + 1 ∧ j ≤ tn ∧ Below w9.heap.size w9 wx)
          case atStart => exact ⟨0, rfl, rfl, Nat.zero_le _, Below.refl _ _⟩
          case round =>
            clear x4 x2
            obtain ⟨j, rfl, hg, hj, hB⟩ := hrel
            have HGj := Lib.hid hg; have HBj := Lib.hid hB
            have hj0 : (0 : Int) ≤ j := by omega
            by_cases hlt : j < tn
            · have f2 : IntKind.i64.wrap ((j : Int) + 1) = (j : Int) + 1 := IntWalk.i64_in _ (by omega)
              have hjI : (j : Int) < tn := by omega
              have hjl : j < t.attrs.length := by have := HATN.out; omega
              have hBB := HB9.out.trans (hB.mono HB9.out.size)
              obtain ⟨a1, cc1, e1, hc⟩ := HAT.out
              injection e1 with e1 e2 e3
              subst e1 e3
              clear e2
              obtain ⟨g1, o1, rfl, hg1, hc1⟩ := hc j hjl
              obtain ⟨pr, hpr⟩ : ∃ pr, t.attrs[j] = pr := ⟨_, rfl⟩
              rw [hpr] at hc1
              obtain ⟨K, V⟩ := pr
              have c0 : wr.cell? ⟨g1, o1 + j * 2, none⟩ = some (Value.string K) := cell_kept (hc1 0 (by decide)) hBB
              have c1 : wr.cell? ⟨g1, o1 + j * 2 + 1, none⟩ = some (Value.string V) := cell_kept (hc1 1 (by decide)) hBB
              have hAL : Below wr.heap.size wr (wr.alloc (.cells #[.string K, .string V] 40)) := (Below.refl _ _).alloc (Nat.le_refl _) _
              have hKB : Blk (wr.alloc (.cells #[.string K, .string V] 40)) wr.heap.size #[.string K, .string V] := Blk.new _ _ _
              have hcn : ∀ q (hq : q < j) (hl : q < t.attrs.length), (K.toList == (t.attrs[q]'hl).1.toList) = false := fun q hq hl => by
                rw [bytes_eqb, decide_eq_false_iff_not]
                intro e
                have := attrs_apart HOK.out j q hjl hq
                rw [hpr] at this
                exact this e.symm
              have HC := Lib.hid hc; have HCN := Lib.hid hcn; have HKB := Lib.hid hKB; have HLTj := Lib.hid hlt
              have HBB := Lib.hid (hBB.trans (hAL.mono hBB.size)); have HBJ2 := Lib.hid (hB.trans (hAL.mono hB.size))
              have HJL := Lib.hid hjl
              have hjc : j ≤ tc := by have := HCAP.out.1; omega
              have hjcI : (j : Int) ≤ (tc : Int) := by omega
              have hcm : tc ≤ 9223372036854775807 := by have := HCAP.out.2; unfold maxLen at this; omega
              clear hc hc1 hg1 hpr hAL hKB hcn hBB hB hlt hg hj hjl
              go_upto_region 23 with fail
              generalize hw10 : wr.alloc (.cells #[.string K, .string V] 40) = w10 at *
              generalize hab : wr.heap.size = ab at *
              clear hw10 c0 c1 hab
              have x2 : w10.cell? ⟨tb, 2, none⟩ = some (.slice (some ⟨g1, o1, none⟩) tn tc) := cell_kept (HT9.out.cell 2) HBJ2.out
              go_wp2_with fail
              go_loopg [101] (j + 1) (fun f s101 wx => ∃ q : Nat, s101 = .int .i64 (q : Int) ∧ f + q = j + 1 ∧ q ≤ j ∧ Below w10.heap.size w10 wx)
              case atStart => exact ⟨0, rfl, rfl, Nat.zero_le _, Below.refl _ _⟩
              case round =>
                clear x2
                obtain ⟨q, rfl, hgq, hq, hBq⟩ := hrel
                have HGq := Lib.hid hgq; have HBq := Lib.hid hBq
                have hq0 : (0 : Int) ≤ q := by omega
                by_cases hqj : q < j
                · have f3 : IntKind.i64.wrap ((q : Int) + 1) = (q : Int) + 1 := IntWalk.i64_in _ (by omega)
                  have hqI : (q : Int) < j := by omega
                  have hql : q < t.attrs.length := by have := HJL.out; omega
                  obtain ⟨g2, o2, e2, _, hc2⟩ := HC.out q hql
                  injection e2 with e2
                  injection e2 with e2 e3
                  subst e2 e3
                  have hne := HCN.out q hqj hql
                  obtain ⟨pr, hpr⟩ : ∃ pr, t.attrs[q] = pr := ⟨_, rfl⟩
                  rw [hpr] at hc2 hne
                  obtain ⟨K2, V2⟩ := pr
                  have hBB2 := HBB.out.trans (hBq.mono HBB.out.size)
                  have c0 : wr.cell? ⟨g1, o1 + q * 2, none⟩ = some (Value.string K2) := cell_kept (hc2 0 (by decide)) hBB2
                  have c1 : wr.cell? ⟨g1, o1 + q * 2 + 1, none⟩ = some (Value.string V2) := cell_kept (hc2 1 (by decide)) hBB2
                  have hAL : Below wr.heap.size wr (wr.alloc (.cells #[.string K2, .string V2] 40)) := (Below.refl _ _).alloc (Nat.le_refl _) _
                  have hKB2 : Blk (wr.alloc (.cells #[.string K2, .string V2] 40)) wr.heap.size #[.string K2, .string V2] := Blk.new _ _ _
                  have HKB2 := Lib.hid hKB2; have HBQ2 := Lib.hid (hBq.trans (hAL.mono hBq.size)); have HQJ := Lib.hid hqj
                  simp only at hne
                  clear hc2 hpr hBB2 hAL hKB2 hBq hqj hgq hq hql
                  go_upto_region 26 with fail
                  generalize hw11 : wr.alloc (.cells #[.string K2, .string V2] 40) = w11 at *
                  generalize hac : wr.heap.size = ac at *
                  clear hw11 c0 c1 hac
                  have y0 : w11.cell? ⟨ab, 0, none⟩ = some (.string K) := cell_kept (HKB.out.cell 0) HBQ2.out
                  have z0 : w11.cell? ⟨ac, 0, none⟩ = some (.string K2) := HKB2.out.cell 0
                  go_wp2_with fail
                  go_roundg (j - q)
                  case rel => exact ⟨q + 1, by simp, by have := HGq.out; have := HQJ.out; omega, HQJ.out, HBQ2.out⟩
                  case measure => have := HGq.out; have := HQJ.out; omega
                · have hqI : ¬ (q : Int) < j := by omega
                  have HBE := Lib.hid (HBJ2.out.trans (hBq.mono HBJ2.out.size))
                  clear hBq hgq hq hqj
                  go_wp2_with fail
                  go_roundg (tn - j)
                  case rel => exact ⟨j + 1, by simp, by have := HGj.out; have := HLTj.out; omega, HLTj.out, HBE.out⟩
                  case measure => have := HGj.out; have := HLTj.out; omega
            · have hjI : ¬ (j : Int) < tn := by omega
              have HEND := Lib.hid (HNEXT.out wr (.slice a' (pn + 1) c') (HB9.out.trans (hB.mono HB9.out.size)) (HROW9.out.on hB))
              clear hB hg hj hlt
              go_wp2_with fail
              go_roundg (on - i)
              case rel => exact ⟨i + 1, _, _, _, rfl, by simp, by have := HG.out; have := HLT.out; omega, HLT.out, HEND.out⟩
              case measure => have := HG.out; have := HLT.out; omega
        · -- an end
          have hpp : tkPile pile t = pile.dropLast := by unfold tkPile; rw [if_neg (by omega), if_pos hk]
          rw [hpp] at HNEXT
          rw [hk] at b0 HNEXT
          obtain ⟨q, hq⟩ : ∃ q, pn = q + 1 := ⟨pn - 1, by
            have := HPN.out
            have : pile.length ≠ 0 := fun e => hcc (List.eq_nil_of_length_eq_zero e)
            omega⟩
          subst hq
          have hrow : ∃ pg, pa = some ⟨pg, 0, none⟩ ∧ q + 1 ≤ pc ∧ pc ≤ maxLen ∧ wc.cell? ⟨pg, q, none⟩ = some (.string t.name) := by
            rcases HP8.out.read with ⟨e, _⟩ | ⟨pg, cap, e, _, g1, g2, g3, g4⟩
            · exact absurd e hcc
            · injection e with e1 e2 e3
              subst e3
              have hkl : q < pile.length := by have := HPN.out; omega
              refine ⟨pg, e1, by have := HPN.out; omega, g3, ?_⟩
              have h := g4 q hkl 0 (by decide)
              have hx : pile[q] = t.name := by
                rw [← htop, List.getLastD_eq_getLast?, List.getLast?_eq_getElem?, show pile.length - 1 = q by have := HPN.out; omega, List.getElem?_eq_getElem hkl]
                rfl
              rw [hx] at h
              simpa [StrE] using h
          obtain ⟨pg, rfl, hkc, hpm, hcx⟩ := hrow
          have f2 : IntKind.i64.wrap ((q : Int) + 1 - 1) = (q : Int) := by rw [show (q : Int) + 1 - 1 = q by omega]; exact IntWalk.i64_in _ (by omega)
          have f3 : IntKind.i64.wrap (q : Int) = (q : Int) := IntWalk.i64_in _ (by omega)
          have hq0 : (0 : Int) ≤ q := by omega
          have hqI : (q : Int) < (q : Int) + 1 := by omega
          have hS : wc.drew.cell? ⟨pg, q, none⟩ = some (.string t.name) ∧ wc.drew.cell? ⟨tb, 1, none⟩ = some (.string t.name) := ⟨hcx, b1⟩
          have HS := Lib.hid hS
          have hself := str_ne_self' t.name
          have HEND := Lib.hid (HNEXT.out wc.drew (.slice (some ⟨pg, 0, none⟩) q pc) (HB8.out.trans ((Below.refl _ _).drew.mono HB8.out.size)) (row_pop (HP8.out.on (Below.refl _ _).drew)))
          have hqc : (q : Int) ≤ (pc : Int) := by omega
          have hpm2 : pc ≤ 9223372036854775807 := by unfold maxLen at hpm; omega
          clear hcc htop hk hS hcx
          go_upto_region 31 with fail
          refine wp_region_held_drew (S := fun w' => w'.cell? ⟨pg, q, none⟩ = some (Value.string t.name) ∧ w'.cell? ⟨tb, 1, none⟩ = some (Value.string t.name)) (by kernel_rfl) (HS.out) (fun hHeld => ?_)
          refine tkH 0 hHeld ?_
          refine tkH 1 hHeld ?_
          refine tkH 2 hHeld ?_
          refine tkH 3 hHeld ?_
          refine tkH 4 hHeld ?_
          refine tkH 5 hHeld ?_
          refine tkH 6 hHeld ?_
          refine tkH 7 hHeld ?_
          refine tkH 8 hHeld ?_
          refine tkH 9 hHeld ?_
          refine tkH 10 hHeld ?_
          refine tkH 11 hHeld ?_
          refine tkH 12 hHeld ?_
          refine tkH 13 hHeld ?_
          refine wpAnyH_done (by kernel_rfl) ?_ _
          go_wp2_with fail
          go_roundg (on - i)
          case rel => exact ⟨i + 1, _, _, _, rfl, by simp, by have := HG.out; have := HLT.out; omega, HLT.out, HEND.out⟩
          case measure => have := HG.out; have := HLT.out; omega
        · -- a text
          have hpp : tkPile pile t = pile := by unfold tkPile; rw [if_neg (by omega), if_neg (by omega)]
          rw [hpp] at HNEXT
          have h4096 : ¬ (4096 : Int) < (t.text.size : Int) := by
            have h := HLONG.out
            unfold tkLong at h
            rw [if_neg (by omega), if_pos hk] at h
            simp only [decide_eq_false_iff_not] at h
            omega
          rw [hk] at b0 HNEXT
          obtain ⟨j, hj⟩ : ∃ j, i = j + 1 := ⟨i - 1, by
            have : i ≠ 0 := fun e => hcc (HZ0.out e).1
            omega⟩
          have f2 : IntKind.i64.wrap ((i : Int) - 1) = (j : Int) := by rw [show (i : Int) - 1 = j by omega]; exact IntWalk.i64_in _ (by omega)
          have pk : wc.cell? ⟨g, j * 5, none⟩ = some (.int .i64 k) := by
            have := HPREV.out (by omega) wc HB8.out
            rw [show i - 1 = j by omega] at this
            exact this
          have hj0 : (0 : Int) ≤ j := by omega
          have hjI : (j : Int) < (on : Int) := by omega
          have hk3 : (k == 3) = false := by simpa using hah
          have hk3' : ¬ k = 3 := hah
          have hte : (t.text.toList == []) = false := by
            have := ne_empty t.text
            rw [decide_eq_true htz] at this
            cases h : t.text.toList with
            | nil => rw [h] at this; cases this
            | cons => rfl
          have HEND := Lib.hid (HNEXT.out wc (.slice pa pn pc) HB8.out HP8.out)
          clear hcc hah htz htk hk hj
          go_wp2_with fail
          go_roundg (on - i)
          case rel => exact ⟨i + 1, _, _, _, rfl, by simp, by have := HG.out; have := HLT.out; omega, HLT.out, HEND.out⟩
          case measure => have := HG.out; have := HLT.out; omega
      · have hiI : ¬ (i : Int) < on := by omega
        have hd : L0.drop i = [] := List.drop_eq_nil_of_le (by have := HON.out; omega)
        have hm := hR.may
        rw [hd] at hm
        have hm : (decide (pile = []) && decide (k ≠ 0)) = true := hm
        rw [Bool.and_eq_true, decide_eq_true_eq] at hm
        have hpe := hm.1
        have hpz : pn = 0 := by have := HPN.out; rw [hpe] at this; exact this.symm
        subst hpz
        have honp : (0 : Int) < (on : Int) := by
          have := HON.out
          have : L0.length ≠ 0 := fun e => HNO.out (List.eq_nil_of_length_eq_zero e)
          omega
        have hpr := HPRT.out wr (HO3.out.win.on hR.b)
        obtain ⟨pe, hpe2⟩ : ∃ e, prE L0 = e := ⟨_, rfl⟩
        obtain ⟨pb, hpb⟩ : ∃ e, prB L0 = e := ⟨_, rfl⟩
        rw [hpe2, hpb] at hpr
        have hcase := HPRI.out
        rw [hpe2, hpb] at hcase
        have HPR := Lib.hid hpr; have HB := Lib.hid hR.b
        clear hd hm hpe hR hg hi hpr hpe2 hpb
        rcases hcase with rfl | ⟨rfl, hne⟩
        · go_wp2_with fail
          refine HPR.out.mono ?_
          rintro e w5 ⟨rfl, hB5⟩
          have HE := Lib.hid (HB3.out.trans ((HB.out.trans (hB5.mono HB.out.size)).mono HB3.out.size))
          clear hB5
          go_wp2_with fail
          go_ret
          exact ⟨rfl, HE.out⟩
        · have hpn : (pb.toList != []) = true := by
            have h2 : pb.toList ≠ [] := fun e => hne (ByteArray.ext (Array.toList_inj.1 (by rw [← Lib.toList_data]; exact e)))
            simpa using h2
          have hpn2 := ne_empty pb
          rw [decide_eq_true (show pb.size ≠ 0 from fun e => hne (tl_size e))] at hpn2
          clear hne
          go_wp2_with fail
          refine HPR.out.mono ?_
          rintro e w5 ⟨rfl, hB5⟩
          have HE := Lib.hid (HB3.out.trans ((HB.out.trans (hB5.mono HB.out.size)).mono HB3.out.size))
          clear hB5
          go_wp2_with fail
          go_ret
          exact ⟨rfl, HE.out⟩
end Go.Proofs.YtdipbfchlopeaaaGreatDoor
