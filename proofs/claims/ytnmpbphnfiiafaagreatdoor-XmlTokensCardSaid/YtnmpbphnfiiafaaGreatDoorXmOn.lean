/-
  The laws' 'one' and 'same': tokens that are alike.
-/
import Derived.Test.YtnmpbphnfiiafaaGreatDoorXmL
import Derived.Test.YtnmpbphnfiiafaaGreatDoorXmX
namespace Go.Proofs.YtnmpbphnfiiafaaGreatDoor
open Go.RowKit Go.PlainAid

theorem str_ne_self (x : ByteArray) : (x.toList != x.toList) = false := by simp
/-- A token that reads so. -/
structure TkAt (w : World) (m : TkM) (t : Tk) : Prop where
  kind : m.kind = t.kind
  name : m.name = t.name
  text : m.text = t.text
  at_ : m.at_ = t.at_
  attrs : GAt AtE w (.slice m.aa m.an m.ac) t.attrs
/-- A slice that reads as tokens. -/
def TksAt (w : World) (v : Value) (out : List Tk) : Prop := ∃ ms : List TkM, GAt TkE w v ms ∧ ms.length = out.length ∧ ∀ j (h : j < ms.length) (h' : j < out.length), TkAt w ms[j] out[j]
theorem OutAt.tks {lo : Nat} {w : World} {v : Value} {out : List Tk} (h : OutAt lo w v out) : TksAt w v out := by
  obtain ⟨ms, h1, h2, h3⟩ := h
  exact ⟨ms, h1.at', h2, fun j hj hj' => ⟨(h3 j hj hj').kind, (h3 j hj hj').name, (h3 j hj hj').text, (h3 j hj hj').at_, (h3 j hj hj').attrs.at'⟩⟩
theorem TkAt.on {w w' : World} {m : TkM} {t : Tk} (h : TkAt w m t) (hB : Below w.heap.size w w') : TkAt w' m t := ⟨h.kind, h.name, h.text, h.at_, h.attrs.on hB⟩
theorem TksAt.on {w w' : World} {v : Value} {out : List Tk} (h : TksAt w v out) (hB : Below w.heap.size w w') : TksAt w' v out := by
  obtain ⟨ms, h1, h2, h3⟩ := h
  exact ⟨ms, h1.on hB, h2, fun j hj hj' => (h3 j hj hj').on hB⟩
section
set_option maxRecDepth 100000
set_option maxHeartbeats 4000000
theorem one_yes (w : World) (kd : Int) (nm tx : ByteArray) (va vb : Value) (A : List At2) (p q : Nat) (b : Bool) (hp : b = true → p = q) (ha : GAt AtE w va A) (hb : GAt AtE w vb A) (hl : A.length ≤ maxLen) :
    Calls Tryz.prog 29 #[.agg #[.int .i64 kd, .string nm, va, .string tx, .int .i64 (p : Int)], .agg #[.int .i64 kd, .string nm, vb, .string tx, .int .i64 (q : Int)], .bool b] w fun e w' => e = .returned (.bool true) ∧ Below w.heap.size w w' := by
  obtain ⟨w1, hw1⟩ : ∃ w1, (w.alloc (.cells #[.int .i64 kd, .string nm, va, .string tx, .int .i64 (p : Int)] 45)).alloc (.cells #[.int .i64 kd, .string nm, vb, .string tx, .int .i64 (q : Int)] 45) = w1 := ⟨_, rfl⟩
  have hB1 : Below w.heap.size w w1 := by rw [← hw1]; exact ((Below.refl _ _).alloc (Nat.le_refl _) _).alloc (by simp) _
  have h1 : Blk w1 w.heap.size #[.int .i64 kd, .string nm, va, .string tx, .int .i64 (p : Int)] := by rw [← hw1]; exact (Blk.new _ _ _).alloc _
  have h2 : Blk w1 (w.heap.size + 1) #[.int .i64 kd, .string nm, vb, .string tx, .int .i64 (q : Int)] := by rw [← hw1]; exact Blk.new' _ _ _ _ (by simp)
  have hA1 := ha.on hB1
  have hA2 := hb.on hB1
  obtain ⟨n, hn⟩ : ∃ n, A.length = n := ⟨_, rfl⟩
  obtain ⟨aa, ca, rfl, hca⟩ := hA1
  obtain ⟨ab, cc, rfl, hcc⟩ := hA2
  rw [hn] at h1 h2 hw1
  have e10 : w1.cell? ⟨w.heap.size, 0, none⟩ = some (.int .i64 kd) := h1.cell 0
  have e11 : w1.cell? ⟨w.heap.size, 1, none⟩ = some (.string nm) := h1.cell 1
  have e12 : w1.cell? ⟨w.heap.size, 2, none⟩ = some (.slice aa n ca) := h1.cell 2
  have e13 : w1.cell? ⟨w.heap.size, 3, none⟩ = some (.string tx) := h1.cell 3
  have e14 : w1.cell? ⟨w.heap.size, 4, none⟩ = some (.int .i64 (p : Int)) := h1.cell 4
  have e20 : w1.cell? ⟨w.heap.size + 1, 0, none⟩ = some (.int .i64 kd) := h2.cell 0
  have e21 : w1.cell? ⟨w.heap.size + 1, 1, none⟩ = some (.string nm) := h2.cell 1
  have e22 : w1.cell? ⟨w.heap.size + 1, 2, none⟩ = some (.slice ab n cc) := h2.cell 2
  have e23 : w1.cell? ⟨w.heap.size + 1, 3, none⟩ = some (.string tx) := h2.cell 3
  have e24 : w1.cell? ⟨w.heap.size + 1, 4, none⟩ = some (.int .i64 (q : Int)) := h2.cell 4
  have s1 := str_ne_self nm
  have s2 := str_ne_self tx
  have HPQ := Lib.hid hp
  have HCA := Lib.hid hca; have HCC := Lib.hid hcc; have HN := Lib.hid hn; have HW1 := Lib.hid hw1; have HB1 := Lib.hid hB1
  rw [hn]
  clear hp ha hb hn hca hcc hw1 hB1 h1 h2
  go_enter Tryz.func29, Tryz.ntmps29
  go_upto_region 0 with fail
  go_cut [3, 4] (fun s3 s4 wx => s3 = .pointer (some ⟨w.heap.size, 0, none⟩) ∧ s4 = .pointer (some ⟨w.heap.size + 1, 0, none⟩) ∧ wx = w1)
  case first =>
    go_wp2_with fail
    go_meet
    case rel => exact ⟨rfl, by simp, HW1.out⟩
  case rest =>
  obtain ⟨rfl, rfl, rfl⟩ := hcut
  clear HW1
  obtain ⟨b1, hb1⟩ : ∃ b1, w.heap.size = b1 := ⟨_, rfl⟩
  rw [hb1] at e10 e11 e12 e13 e14 e20 e21 e22 e23 e24 ⊢
  obtain ⟨b2, hb2⟩ : ∃ b2, b1 + 1 = b2 := ⟨_, rfl⟩
  rw [hb2] at e20 e21 e22 e23 e24 ⊢
  cases b with
  | true =>
    have s3 : ((p : Int) != (q : Int)) = false := by rw [HPQ.out rfl]; simp
    clear HPQ
    go_wp2_with fail
    go_loopg [49] (n + 1) (fun f s49 wx => ∃ i : Nat, s49 = .int .i64 (i : Int) ∧ f + i = n + 1 ∧ i ≤ n ∧ Below wc.heap.size wc wx ∧ wx.cell? ⟨b1, 2, none⟩ = some (.slice aa n ca) ∧ wx.cell? ⟨b2, 2, none⟩ = some (.slice ab n cc))
    case atStart => exact ⟨0, rfl, rfl, Nat.zero_le _, Below.refl _ _, e12, e22⟩
    case round =>
      clear e10 e11 e12 e13 e14 e20 e21 e22 e23 e24 s1 s2
      try clear s3
      obtain ⟨i, rfl, hg, hi, hB, e12, e22⟩ := hrel
      have HG := Lib.hid hg; have HB := Lib.hid hB
      have hi0 : (0 : Int) ≤ i := by omega
      have hnn : n ≤ 9223372036854775807 := by have := HN.out; unfold maxLen at hl; omega
      clear hg hB
      by_cases hlt : i < n
      · have f1 : IntKind.i64.wrap ((i : Int) + 1) = (i : Int) + 1 := IntWalk.i64_in _ (by omega)
        have hil : i < A.length := by have := HN.out; omega
        have hiI : (i : Int) < n := by omega
        obtain ⟨g1, o1, rfl, hg1, hc1⟩ := HCA.out i hil
        obtain ⟨g2, o2, rfl, hg2, hc2⟩ := HCC.out i hil
        obtain ⟨pr, hpr⟩ : ∃ pr, A[i] = pr := ⟨_, rfl⟩
        rw [hpr] at hc1 hc2
        obtain ⟨K, V⟩ := pr
        have k1 : wc.cell? ⟨g1, o1 + i * 2, none⟩ = some (Value.string K) := hc1 0 (by decide)
        have k2 : wc.cell? ⟨g1, o1 + i * 2 + 1, none⟩ = some (Value.string V) := hc1 1 (by decide)
        have k3 : wc.cell? ⟨g2, o2 + i * 2, none⟩ = some (Value.string K) := hc2 0 (by decide)
        have k4 : wc.cell? ⟨g2, o2 + i * 2 + 1, none⟩ = some (Value.string V) := hc2 1 (by decide)
        have hBd := HB.out.trans ((Below.refl wr.heap.size wr).drew.mono HB.out.size)
        have hSd : wr.drew.cell? ⟨b1, 2, none⟩ = some (Value.slice (some ⟨g1, o1, none⟩) n ca) ∧ wr.drew.cell? ⟨b2, 2, none⟩ = some (Value.slice (some ⟨g2, o2, none⟩) n cc) ∧ wr.drew.cell? ⟨g1, o1 + i * 2, none⟩ = some (Value.string K) ∧ wr.drew.cell? ⟨g1, o1 + i * 2 + 1, none⟩ = some (Value.string V) ∧ wr.drew.cell? ⟨g2, o2 + i * 2, none⟩ = some (Value.string K) ∧ wr.drew.cell? ⟨g2, o2 + i * 2 + 1, none⟩ = some (Value.string V) :=
          ⟨e12, e22, cell_kept k1 hBd, cell_kept k2 hBd, cell_kept k3 hBd, cell_kept k4 hBd⟩
        have HLT := Lib.hid hlt
        have HBD := Lib.hid hBd
        clear hc1 hc2 k1 k2 k3 k4 hBd hpr hlt hil hg1 hg2 e12 e22
        go_upto_region 6 with fail
        refine wp_region_held_drew (S := fun w' => w'.cell? ⟨b1, 2, none⟩ = some (Value.slice (some ⟨g1, o1, none⟩) n ca) ∧ w'.cell? ⟨b2, 2, none⟩ = some (Value.slice (some ⟨g2, o2, none⟩) n cc) ∧ w'.cell? ⟨g1, o1 + i * 2, none⟩ = some (Value.string K) ∧ w'.cell? ⟨g1, o1 + i * 2 + 1, none⟩ = some (Value.string V) ∧ w'.cell? ⟨g2, o2 + i * 2, none⟩ = some (Value.string K) ∧ w'.cell? ⟨g2, o2 + i * 2 + 1, none⟩ = some (Value.string V)) (by kernel_rfl) (hSd) (fun hHeld => ?_)
        refine tkH 0 hHeld ?_
        refine tkH 1 hHeld ?_
        refine tkH 2 hHeld ?_
        refine tkH 3 hHeld ?_
        refine tkH 4 hHeld ?_
        refine tkH 5 hHeld ?_
        refine tkH 6 hHeld ?_
        refine tkH 7 hHeld ?_
        refine tkH 8 hHeld ?_
        refine tkH 9 hHeld ?_
        refine tkH 10 hHeld ?_
        refine wpAnyH_done (by kernel_rfl) ?_ _
        have sK := str_ne_self K
        have sV := str_ne_self V
        go_wp2_with fail
        go_roundg (n - i)
        case rel => exact ⟨i + 1, by simp, by have := HG.out; have := HLT.out; omega, HLT.out, HBD.out, hSd.1, hSd.2.1⟩
        case measure => have := HG.out; have := HLT.out; omega
      · have hiI : ¬ (i : Int) < n := by omega
        go_wp2_with fail
        go_ret
        refine ⟨rfl, ?_⟩
        first | exact HB1.out.trans (HB.out.mono HB1.out.size) | (rw [← hb1]; exact HB1.out.trans (HB.out.mono HB1.out.size))
  | false =>
    clear HPQ
    go_wp2_with fail
    go_loopg [49] (n + 1) (fun f s49 wx => ∃ i : Nat, s49 = .int .i64 (i : Int) ∧ f + i = n + 1 ∧ i ≤ n ∧ Below wc.heap.size wc wx ∧ wx.cell? ⟨b1, 2, none⟩ = some (.slice aa n ca) ∧ wx.cell? ⟨b2, 2, none⟩ = some (.slice ab n cc))
    case atStart => exact ⟨0, rfl, rfl, Nat.zero_le _, Below.refl _ _, e12, e22⟩
    case round =>
      clear e10 e11 e12 e13 e14 e20 e21 e22 e23 e24 s1 s2
      try clear s3
      obtain ⟨i, rfl, hg, hi, hB, e12, e22⟩ := hrel
      have HG := Lib.hid hg; have HB := Lib.hid hB
      have hi0 : (0 : Int) ≤ i := by omega
      have hnn : n ≤ 9223372036854775807 := by have := HN.out; unfold maxLen at hl; omega
      clear hg hB
      by_cases hlt : i < n
      · have f1 : IntKind.i64.wrap ((i : Int) + 1) = (i : Int) + 1 := IntWalk.i64_in _ (by omega)
        have hil : i < A.length := by have := HN.out; omega
        have hiI : (i : Int) < n := by omega
        obtain ⟨g1, o1, rfl, hg1, hc1⟩ := HCA.out i hil
        obtain ⟨g2, o2, rfl, hg2, hc2⟩ := HCC.out i hil
        obtain ⟨pr, hpr⟩ : ∃ pr, A[i] = pr := ⟨_, rfl⟩
        rw [hpr] at hc1 hc2
        obtain ⟨K, V⟩ := pr
        have k1 : wc.cell? ⟨g1, o1 + i * 2, none⟩ = some (Value.string K) := hc1 0 (by decide)
        have k2 : wc.cell? ⟨g1, o1 + i * 2 + 1, none⟩ = some (Value.string V) := hc1 1 (by decide)
        have k3 : wc.cell? ⟨g2, o2 + i * 2, none⟩ = some (Value.string K) := hc2 0 (by decide)
        have k4 : wc.cell? ⟨g2, o2 + i * 2 + 1, none⟩ = some (Value.string V) := hc2 1 (by decide)
        have hBd := HB.out.trans ((Below.refl wr.heap.size wr).drew.mono HB.out.size)
        have hSd : wr.drew.cell? ⟨b1, 2, none⟩ = some (Value.slice (some ⟨g1, o1, none⟩) n ca) ∧ wr.drew.cell? ⟨b2, 2, none⟩ = some (Value.slice (some ⟨g2, o2, none⟩) n cc) ∧ wr.drew.cell? ⟨g1, o1 + i * 2, none⟩ = some (Value.string K) ∧ wr.drew.cell? ⟨g1, o1 + i * 2 + 1, none⟩ = some (Value.string V) ∧ wr.drew.cell? ⟨g2, o2 + i * 2, none⟩ = some (Value.string K) ∧ wr.drew.cell? ⟨g2, o2 + i * 2 + 1, none⟩ = some (Value.string V) :=
          ⟨e12, e22, cell_kept k1 hBd, cell_kept k2 hBd, cell_kept k3 hBd, cell_kept k4 hBd⟩
        have HLT := Lib.hid hlt
        have HBD := Lib.hid hBd
        clear hc1 hc2 k1 k2 k3 k4 hBd hpr hlt hil hg1 hg2 e12 e22
        go_upto_region 6 with fail
        refine wp_region_held_drew (S := fun w' => w'.cell? ⟨b1, 2, none⟩ = some (Value.slice (some ⟨g1, o1, none⟩) n ca) ∧ w'.cell? ⟨b2, 2, none⟩ = some (Value.slice (some ⟨g2, o2, none⟩) n cc) ∧ w'.cell? ⟨g1, o1 + i * 2, none⟩ = some (Value.string K) ∧ w'.cell? ⟨g1, o1 + i * 2 + 1, none⟩ = some (Value.string V) ∧ w'.cell? ⟨g2, o2 + i * 2, none⟩ = some (Value.string K) ∧ w'.cell? ⟨g2, o2 + i * 2 + 1, none⟩ = some (Value.string V)) (by kernel_rfl) (hSd) (fun hHeld => ?_)
        refine tkH 0 hHeld ?_
        refine tkH 1 hHeld ?_
        refine tkH 2 hHeld ?_
        refine tkH 3 hHeld ?_
        refine tkH 4 hHeld ?_
        refine tkH 5 hHeld ?_
        refine tkH 6 hHeld ?_
        refine tkH 7 hHeld ?_
        refine tkH 8 hHeld ?_
        refine tkH 9 hHeld ?_
        refine tkH 10 hHeld ?_
        refine wpAnyH_done (by kernel_rfl) ?_ _
        have sK := str_ne_self K
        have sV := str_ne_self V
        go_wp2_with fail
        go_roundg (n - i)
        case rel => exact ⟨i + 1, by simp, by have := HG.out; have := HLT.out; omega, HLT.out, HBD.out, hSd.1, hSd.2.1⟩
        case measure => have := HG.out; have := HLT.out; omega
      · have hiI : ¬ (i : Int) < n := by omega
        go_wp2_with fail
        go_ret
        refine ⟨rfl, ?_⟩
        first | exact HB1.out.trans (HB.out.mono HB1.out.size) | (rw [← hb1]; exact HB1.out.trans (HB.out.mono HB1.out.size))

theorem same_yes (w : World) (v v2 : Value) (out : List Tk) (h1 : TksAt w v out) (h2 : TksAt w v2 out) (hl : out.length ≤ maxLen) (hal : ∀ t ∈ out, t.attrs.length ≤ maxLen) :
    Calls Tryz.prog 15 #[v, v2, .bool true] w fun e w' => e = .returned (.bool true) ∧ Below w.heap.size w w' := by
  obtain ⟨ms, hr1, hm1, ht1⟩ := h1
  obtain ⟨ms2, hr2, hm2, ht2⟩ := h2
  obtain ⟨n, hn⟩ : ∃ n, out.length = n := ⟨_, rfl⟩
  rw [hn] at hm1 hm2
  obtain ⟨aa, ca, rfl, hca⟩ := hr1
  obtain ⟨ab, cc, rfl, hcc⟩ := hr2
  have HM1 := Lib.hid hm1; have HM2 := Lib.hid hm2; have HN := Lib.hid hn; have HT1 := Lib.hid ht1; have HT2 := Lib.hid ht2; have HCA := Lib.hid hca; have HCC := Lib.hid hcc; have HAL := Lib.hid hal
  rw [hm1, hm2]
  have hnn : n ≤ 9223372036854775807 := by unfold maxLen at hl; omega
  clear hm1 hm2 hn ht1 ht2 hca hcc hal
  go_enter Tryz.func15, Tryz.ntmps15
  go_wp2_with fail
  go_loopg [15] (n + 1) (fun f s15 wx => ∃ i : Nat, s15 = .int .i64 (i : Int) ∧ f + i = n + 1 ∧ i ≤ n ∧ Below w.heap.size w wx)
  case atStart => exact ⟨0, rfl, rfl, Nat.zero_le _, Below.refl _ _⟩
  case round =>
    obtain ⟨i, rfl, hg, hi, hB⟩ := hrel
    have HG := Lib.hid hg; have HB := Lib.hid hB
    have hi0 : (0 : Int) ≤ i := by omega
    clear hg hB
    by_cases hlt : i < n
    · have f1 : IntKind.i64.wrap ((i : Int) + 1) = (i : Int) + 1 := IntWalk.i64_in _ (by omega)
      have hil1 : i < ms.length := by have := HM1.out; omega
      have hil2 : i < ms2.length := by have := HM2.out; omega
      have hilo : i < out.length := by have := HN.out; omega
      have hiI : (i : Int) < n := by omega
      obtain ⟨g1, o1, rfl, hg1, hc1⟩ := HCA.out i hil1
      obtain ⟨g2, o2, rfl, hg2, hc2⟩ := HCC.out i hil2
      have t1 := HT1.out i hil1 hilo
      have t2 := HT2.out i hil2 hilo
      obtain ⟨m, hm⟩ : ∃ m, ms[i] = m := ⟨_, rfl⟩
      obtain ⟨m2, hm2⟩ : ∃ m2, ms2[i] = m2 := ⟨_, rfl⟩
      have hta := HAL.out out[i] (List.getElem_mem _)
      obtain ⟨t, ht⟩ : ∃ t, out[i] = t := ⟨_, rfl⟩
      rw [hm] at hc1 t1
      rw [hm2] at hc2 t2
      rw [ht] at t1 t2 hta
      have HSON := Lib.hid (show ∀ w', Below wr.heap.size wr w' → w'.cell? ⟨g1, o1 + i * 5, none⟩ = some (Value.int .i64 m.kind) ∧ w'.cell? ⟨g1, o1 + i * 5 + 1, none⟩ = some (Value.string m.name) ∧ w'.cell? ⟨g1, o1 + i * 5 + 2, none⟩ = some (Value.slice m.aa m.an m.ac) ∧ w'.cell? ⟨g1, o1 + i * 5 + 3, none⟩ = some (Value.string m.text) ∧ w'.cell? ⟨g1, o1 + i * 5 + 4, none⟩ = some (Value.int .i64 (m.at_ : Int)) ∧ w'.cell? ⟨g2, o2 + i * 5, none⟩ = some (Value.int .i64 m2.kind) ∧ w'.cell? ⟨g2, o2 + i * 5 + 1, none⟩ = some (Value.string m2.name) ∧ w'.cell? ⟨g2, o2 + i * 5 + 2, none⟩ = some (Value.slice m2.aa m2.an m2.ac) ∧ w'.cell? ⟨g2, o2 + i * 5 + 3, none⟩ = some (Value.string m2.text) ∧ w'.cell? ⟨g2, o2 + i * 5 + 4, none⟩ = some (Value.int .i64 (m2.at_ : Int)) ∧ Below wr.heap.size wr w' from fun w' hB' => by
        have hBB := HB.out.trans (hB'.mono HB.out.size)
        exact ⟨cell_kept (hc1 0 (by decide)) hBB, cell_kept (hc1 1 (by decide)) hBB, cell_kept (hc1 2 (by decide)) hBB, cell_kept (hc1 3 (by decide)) hBB, cell_kept (hc1 4 (by decide)) hBB, cell_kept (hc2 0 (by decide)) hBB, cell_kept (hc2 1 (by decide)) hBB, cell_kept (hc2 2 (by decide)) hBB, cell_kept (hc2 3 (by decide)) hBB, cell_kept (hc2 4 (by decide)) hBB, hB'⟩)
      have HONE := Lib.hid (show ∀ W, Below wr.heap.size wr W → Calls Tryz.prog 29 #[.agg #[.int .i64 m.kind, .string m.name, .slice m.aa m.an m.ac, .string m.text, .int .i64 (m.at_ : Int)], .agg #[.int .i64 m2.kind, .string m2.name, .slice m2.aa m2.an m2.ac, .string m2.text, .int .i64 (m2.at_ : Int)], .bool true] W fun e w' => e = .returned (.bool true) ∧ Below W.heap.size W w' from fun W hBW => by
        have hBB := HB.out.trans (hBW.mono HB.out.size)
        rw [t1.kind, t1.name, t1.text, t1.at_, t2.kind, t2.name, t2.text, t2.at_]
        exact one_yes W _ _ _ _ _ _ _ _ true (fun _ => rfl) (t1.attrs.on hBB) (t2.attrs.on hBB) hta)
      have HLT := Lib.hid hlt
      clear hc1 hc2 t1 t2 hm hm2 ht hta hlt hil1 hil2 hilo hg1 hg2
      go_upto_region 6 with fail
      refine wp_region_held_drew (S := fun w' => w'.cell? ⟨g1, o1 + i * 5, none⟩ = some (Value.int .i64 m.kind) ∧ w'.cell? ⟨g1, o1 + i * 5 + 1, none⟩ = some (Value.string m.name) ∧ w'.cell? ⟨g1, o1 + i * 5 + 2, none⟩ = some (Value.slice m.aa m.an m.ac) ∧ w'.cell? ⟨g1, o1 + i * 5 + 3, none⟩ = some (Value.string m.text) ∧ w'.cell? ⟨g1, o1 + i * 5 + 4, none⟩ = some (Value.int .i64 (m.at_ : Int)) ∧ w'.cell? ⟨g2, o2 + i * 5, none⟩ = some (Value.int .i64 m2.kind) ∧ w'.cell? ⟨g2, o2 + i * 5 + 1, none⟩ = some (Value.string m2.name) ∧ w'.cell? ⟨g2, o2 + i * 5 + 2, none⟩ = some (Value.slice m2.aa m2.an m2.ac) ∧ w'.cell? ⟨g2, o2 + i * 5 + 3, none⟩ = some (Value.string m2.text) ∧ w'.cell? ⟨g2, o2 + i * 5 + 4, none⟩ = some (Value.int .i64 (m2.at_ : Int)) ∧ Below wr.heap.size wr w') (by kernel_rfl) (HSON.out _ (Below.refl _ _).drew) (fun hHeld => ?_)
      refine tkH 0 hHeld ?_
      refine tkH 1 hHeld ?_
      refine tkH 2 hHeld ?_
      refine tkH 3 hHeld ?_
      refine tkH 4 hHeld ?_
      refine tkH 5 hHeld ?_
      refine tkH 6 hHeld ?_
      refine tkH 7 hHeld ?_
      refine tkH 8 hHeld ?_
      refine wpAnyH_ready (rs := [9]) (by kernel_rfl) (by simp) ?_
      refine AllReadyH.cons rfl (fun K hK => ?_) AllReadyH.nil
      go_simp
      go_wp2_with (go_at_call 29; refine (HONE.out wr.drew (Below.refl _ _).drew).mono ?_; rintro en w4 ⟨rfl, hB4⟩; have hS4 := HSON.out w4 ((Below.refl _ _).drew.trans (hB4.mono (Nat.le_refl _))))
      refine hK.out _ _ (hS4) (fun hHeld => ?_)
      clear hK K
      refine tkH 10 hHeld ?_
      refine wpAnyH_done (by kernel_rfl) ?_ _
      have hBf := HB.out.trans (hS4.2.2.2.2.2.2.2.2.2.2.mono HB.out.size)
      have HBF := Lib.hid hBf
      clear hHeld hS4 hB4 hBf
      go_wp2_with fail
      go_roundg (n - i)
      case rel => exact ⟨i + 1, by simp, by have := HG.out; have := HLT.out; omega, HLT.out, HBF.out⟩
      case measure => have := HG.out; have := HLT.out; omega
    · have hiI : ¬ (i : Int) < n := by omega
      go_wp2_with fail
      go_ret
      exact ⟨rfl, HB.out⟩
end
end Go.Proofs.YtnmpbphnfiiafaaGreatDoor
