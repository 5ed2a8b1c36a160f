/-
  The Replacer's work on a text: Escape's table.
-/
import Derived.Test.YtnmpbphnfiiafaaGreatDoorXmK7
import Derived.Laws.OwnMore
import Derived.Laws.CopyRow
import Derived.Deep.OwnRows
import Derived.Deep.DeepCutAuto
namespace Go.Proofs.YtnmpbphnfiiafaaGreatDoor
open Go.RowKit Go.PlainAid

def esc4 : List (Nat × ByteArray) := [(34, (⟨#[38, 113, 117, 111, 116, 59]⟩ : ByteArray)), (62, (⟨#[38, 103, 116, 59]⟩ : ByteArray)), (60, (⟨#[38, 108, 116, 59]⟩ : ByteArray)), (38, (⟨#[38, 97, 109, 112, 59]⟩ : ByteArray))]
theorem esc_rpl_all : ∀ n : Fin 256, escC (UInt8.ofNat n.val) = (match rplL esc4 n.val with | some r => r.data.toList | none => [UInt8.ofNat n.val]) := by decide +kernel
theorem esc_some {x : UInt8} {r : ByteArray} (h : rplL esc4 x.toNat = some r) : escC x = r.data.toList := by
  have := esc_rpl_all ⟨x.toNat, x.toNat_lt⟩
  simp only [UInt8.ofNat_toNat, h] at this
  exact this
theorem esc_none {x : UInt8} (h : rplL esc4 x.toNat = none) : escC x = [x] := by
  have := esc_rpl_all ⟨x.toNat, x.toNat_lt⟩
  simp only [UInt8.ofNat_toNat, h] at this
  exact this
theorem esc_len (x : UInt8) : 1 ≤ (escC x).length ∧ (escC x).length ≤ 6 := by
  unfold escC
  repeat' split
  all_goals simp
/-- The length of what is written. -/
def escN (l : List UInt8) : Nat := (l.flatMap escC).length
theorem escN_cons (x : UInt8) (l : List UInt8) : escN (x :: l) = (escC x).length + escN l := by simp [escN]
theorem escN_append (a b : List UInt8) : escN (a ++ b) = escN a + escN b := by simp [escN]
theorem escN_ge : ∀ l : List UInt8, l.length ≤ escN l ∧ escN l ≤ 6 * l.length
  | [] => by simp [escN]
  | x :: l => by
    have h1 := escN_ge l
    have h2 := esc_len x
    rw [escN_cons, List.length_cons]
    omega
theorem esc_same : ∀ {l : List UInt8}, escN l = l.length → l.flatMap escC = l
  | [], _ => rfl
  | x :: l, h => by
    have h1 := escN_ge l
    have h2 := esc_len x
    rw [escN_cons, List.length_cons] at h
    have h3 : (escC x).length = 1 := by omega
    rw [List.flatMap_cons, esc_same (l := l) (by omega)]
    have h4 : escC x = [x] := by
      revert h3
      unfold escC
      repeat' split
      all_goals simp
    rw [h4]
    rfl
theorem escN_count : ∀ l : List UInt8, escN l = l.length + l.count 34 * 5 + l.count 62 * 3 + l.count 60 * 3 + l.count 38 * 4
  | [] => by simp [escN]
  | x :: l => by
    rw [escN_cons, escN_count l, List.length_cons]
    simp only [List.count_cons]
    by_cases h1 : x = 38
    · subst h1
      have e : (escC 38).length = 5 := rfl
      rw [e]
      simp
      omega
    by_cases h2 : x = 60
    · subst h2
      have e : (escC 60).length = 4 := rfl
      rw [e]
      simp
      omega
    by_cases h3 : x = 62
    · subst h3
      have e : (escC 62).length = 4 := rfl
      rw [e]
      simp
      omega
    by_cases h4 : x = 34
    · subst h4
      have e : (escC 34).length = 6 := rfl
      rw [e]
      simp
      omega
    · have e : (escC x).length = 1 := by unfold escC; rw [if_neg h1, if_neg h2, if_neg h3, if_neg h4]; rfl
      rw [e]
      simp [h1, h2, h3, h4]
      omega
theorem Bsr.on {lo b : Nat} {L : List (Nat × ByteArray)} {cs : Array Value} {v : Value} {w w' : World} (h : Bsr lo b L cs v w) (hB : Below w.heap.size w w') : Bsr lo b L cs v w' :=
  ⟨(hB.block b (lt_some h.blk)).trans h.blk, h.size, fun c hc => RepC.later (h.rep c hc) (fun g _ _ hgc => hB.block g (lt_some hgc)), h.last, h.row.on hB, h.lo⟩
theorem neq_slice (a : Option Addr) (l c : Nat) (w : World) : (binOp .neq 60 (.slice a l c) (.slice none 0 0)).run Tryz.prog w = .ok (.bool (!a.isNone)) w := run_neq_slice_nil (w := w) 60 5 a l c Tryz.underlying60
def rplN (s : ByteArray) (i : Nat) : Nat := match rplL esc4 (bt s i).toNat with | some r => r.size | none => 1
theorem take_step (s : ByteArray) (i : Nat) (h : i < s.size) : s.data.toList.take (i + 1) = s.data.toList.take i ++ [s[i]] := by
  rw [List.take_succ_eq_append_getElem (show i < s.data.toList.length from h)]
  rfl
theorem bt_byte (s : ByteArray) (i : Nat) (h : i < s.size) : (bt s i).toNat = (s[i]).toNat := by rw [← get_bt s i h]; exact Int.toNat_natCast _
theorem T_step (s : ByteArray) (i : Nat) (h : i < s.size) : escN (s.data.toList.take (i + 1)) = escN (s.data.toList.take i) + rplN s i := by
  rw [take_step s i h, escN_append]
  congr 1
  unfold rplN
  rw [bt_byte s i h]
  cases hr : rplL esc4 (s[i]).toNat with
  | none => simp [escN, esc_none hr]
  | some r =>
    simp [escN, esc_some hr]
    try rfl
theorem T_le (s : ByteArray) (i : Nat) : escN (s.data.toList.take i) ≤ escN s.data.toList := by
  have h : escN s.data.toList = escN (s.data.toList.take i) + escN (s.data.toList.drop i) := by rw [← escN_append, List.take_append_drop]
  omega
theorem T_zero (s : ByteArray) : escN (s.data.toList.take 0) = 0 := rfl
theorem T_all (s : ByteArray) (i : Nat) (h : s.size ≤ i) : escN (s.data.toList.take i) = escN s.data.toList := by rw [List.take_of_length_le (show s.data.toList.length ≤ i from h)]
theorem T_ge (s : ByteArray) (i : Nat) (h : i ≤ s.size) : i ≤ escN (s.data.toList.take i) ∧ escN (s.data.toList.take i) ≤ 6 * i := by
  have h1 := escN_ge (s.data.toList.take i)
  rw [List.length_take, Nat.min_eq_left (show i ≤ s.data.toList.length from h)] at h1
  exact h1
theorem rpl_size {n : Nat} {r : ByteArray} (h : rplL esc4 n = some r) (hn : n < 256) : 1 ≤ r.size ∧ r.size ≤ 6 := by
  have key : ∀ n : Fin 256, (match rplL esc4 n.val with | some r => decide (1 ≤ r.size ∧ r.size ≤ 6) | none => true) = true := by decide +kernel
  have := key ⟨n, hn⟩
  simp only [h] at this
  simpa using this
theorem rpl_two {n : Nat} {r : ByteArray} (h : rplL esc4 n = some r) (hn : n < 256) : 2 ≤ r.size := by
  have key : ∀ n : Fin 256, (match rplL esc4 n.val with | some r => decide (2 ≤ r.size) | none => true) = true := by decide +kernel
  have := key ⟨n, hn⟩
  simp only [h] at this
  simpa using this
theorem bt_nat (s : ByteArray) (i : Nat) : ((bt s i).toNat : Int) = bt s i ∧ (bt s i).toNat < 256 := by
  have h1 := bt_nonneg s i
  have h2 := bt_le s i
  constructor <;> omega

set_option maxRecDepth 100000 in
set_option maxHeartbeats 8000000 in
theorem bsrReplace_any (lo b : Nat) (cs : Array Value) (v : Value) (s : ByteArray) (w : World) (h : Bsr lo b esc4 cs v w) (hz : s.size ≤ 4000000000) :
    Calls Tryz.prog 179 #[.pointer (some ⟨b, 0, none⟩), .string s] w fun en w' => en = .returned (.string (escB s)) ∧ Below w.heap.size w w' := by
  have hzI : (s.size : Int) ≤ 4000000000 := by omega
  obtain ⟨ta, tn, tc, hv⟩ := h.row.form'
  subst hv
  have htn : tn = 4 := by
    obtain ⟨_, _, e⟩ := h.row.form
    injection e
  subst htn
  have c256 : w.cell? ⟨b, 256, none⟩ = some (.slice ta 4 tc) := (cellH h.blk 256).trans h.last
  have HH := Lib.hid h
  have hnq := fun a l c W => neq_slice a l c W
  clear h
  go_enter Tryz.func179, Tryz.ntmps179
  go_upto_if 26 with fail
  clear c256
  go_cut [5, 6] (fun s5 s6 wx => s5 = .int .i64 (escN s.data.toList : Int) ∧ s6 = .bool (decide (s.size < escN s.data.toList)) ∧ Below w.heap.size w wx)
  case first =>
    by_cases hA : 32 ≤ s.size
    · have hI : (32 : Int) ≤ s.size := by omega
      rw [show decide ((32 : Int) ≤ (s.size : Int)) = true from decide_eq_true hI]
      clear hI
      obtain ⟨n0, hn0⟩ : ∃ n, s.data.toList.count 34 = n := ⟨_, rfl⟩
      obtain ⟨n1, hn1⟩ : ∃ n, s.data.toList.count 62 = n := ⟨_, rfl⟩
      obtain ⟨n2, hn2⟩ : ∃ n, s.data.toList.count 60 = n := ⟨_, rfl⟩
      obtain ⟨n3, hn3⟩ : ∃ n, s.data.toList.count 38 = n := ⟨_, rfl⟩
      have hll : s.data.toList.length = s.size := rfl
      have hb0 : n0 ≤ s.size := by rw [← hn0, ← hll]; exact List.count_le_length
      have hb1 : n1 ≤ s.size := by rw [← hn1, ← hll]; exact List.count_le_length
      have hb2 : n2 ≤ s.size := by rw [← hn2, ← hll]; exact List.count_le_length
      have hb3 : n3 ≤ s.size := by rw [← hn3, ← hll]; exact List.count_le_length
      have hN := escN_count s.data.toList
      rw [hn0, hn1, hn2, hn3, hll] at hN
      have HN := Lib.hid hN
      have hcnt0 : ∀ W, Calls Tryz.prog 181 #[.string s, .string ⟨#[34]⟩] W fun e w' => e = .returned (.int .i64 (n0 : Int)) ∧ w' = W := fun W => by have h := Tryz.strings_Count_one s 34 W; unfold Lib.countByte at h; rw [hn0] at h; exact h
      have hcnt1 : ∀ W, Calls Tryz.prog 181 #[.string s, .string ⟨#[62]⟩] W fun e w' => e = .returned (.int .i64 (n1 : Int)) ∧ w' = W := fun W => by have h := Tryz.strings_Count_one s 62 W; unfold Lib.countByte at h; rw [hn1] at h; exact h
      have hcnt2 : ∀ W, Calls Tryz.prog 181 #[.string s, .string ⟨#[60]⟩] W fun e w' => e = .returned (.int .i64 (n2 : Int)) ∧ w' = W := fun W => by have h := Tryz.strings_Count_one s 60 W; unfold Lib.countByte at h; rw [hn2] at h; exact h
      have hcnt3 : ∀ W, Calls Tryz.prog 181 #[.string s, .string ⟨#[38]⟩] W fun e w' => e = .returned (.int .i64 (n3 : Int)) ∧ w' = W := fun W => by have h := Tryz.strings_Count_one s 38 W; unfold Lib.countByte at h; rw [hn3] at h; exact h
      have c256 : w.cell? ⟨b, 256, none⟩ = some (.slice ta 4 tc) := (cellH HH.out.blk 256).trans HH.out.last
      rcases HH.out.row.read with ⟨e, _⟩ | ⟨tg, tcap, hv, _, _, _, _, hrc⟩
      · cases e
      injection hv with e1 e2 e3
      clear e2
      subst e1 e3
      have r0 : w.cell? ⟨tg, 0, none⟩ = some (.string ⟨#[34]⟩) := hrc 0 (by decide) 0 (by decide)
      have r1 : w.cell? ⟨tg, 1, none⟩ = some (.string ⟨#[62]⟩) := hrc 1 (by decide) 0 (by decide)
      have r2 : w.cell? ⟨tg, 2, none⟩ = some (.string ⟨#[60]⟩) := hrc 2 (by decide) 0 (by decide)
      have r3 : w.cell? ⟨tg, 3, none⟩ = some (.string ⟨#[38]⟩) := hrc 3 (by decide) 0 (by decide)
      have HRC := Lib.hid (And.intro r0 (And.intro r1 (And.intro r2 r3)))
      clear hN hn0 hn1 hn2 hn3 hrc r0 r1 r2 r3 hA
      go_upto_region 5 with fail
      clear c256
      go_loopg [32, 5, 6] 5 (fun f s32 s5 s6 wx => Below w.heap.size w wx ∧ ((f = 5 ∧ s32 = .int .i64 0 ∧ s5 = .int .i64 ((s.size : Int)) ∧ s6 = .bool (false)) ∨ (f = 4 ∧ s32 = .int .i64 1 ∧ s5 = .int .i64 ((s.size : Int) + (n0 : Int) * 5) ∧ s6 = .bool (decide (0 < 0 + n0 * 5))) ∨ (f = 3 ∧ s32 = .int .i64 2 ∧ s5 = .int .i64 ((s.size : Int) + (n0 : Int) * 5 + (n1 : Int) * 3) ∧ s6 = .bool (decide (0 < 0 + n0 * 5 + n1 * 3))) ∨ (f = 2 ∧ s32 = .int .i64 3 ∧ s5 = .int .i64 ((s.size : Int) + (n0 : Int) * 5 + (n1 : Int) * 3 + (n2 : Int) * 3) ∧ s6 = .bool (decide (0 < 0 + n0 * 5 + n1 * 3 + n2 * 3))) ∨ (f = 1 ∧ s32 = .int .i64 4 ∧ s5 = .int .i64 ((s.size : Int) + (n0 : Int) * 5 + (n1 : Int) * 3 + (n2 : Int) * 3 + (n3 : Int) * 4) ∧ s6 = .bool (decide (0 < 0 + n0 * 5 + n1 * 3 + n2 * 3 + n3 * 4)))))
      case atStart => exact ⟨Below.refl _ _, .inl ⟨rfl, rfl, rfl, rfl⟩⟩
      case round =>
        obtain ⟨hB, ⟨rfl, rfl, rfl, rfl⟩ | ⟨rfl, rfl, rfl, rfl⟩ | ⟨rfl, rfl, rfl, rfl⟩ | ⟨rfl, rfl, rfl, rfl⟩ | ⟨rfl, rfl, rfl, rfl⟩⟩ := hrel
        · have HB := Lib.hid hB
          have rk := cell_kept HRC.out.1 hB
          have hBs := HH.out.on hB
          obtain ⟨g, cap, hcl, hlg, hRB⟩ := (hBs.rep 34 (by decide) : RepC lo wr (some ⟨#[38, 113, 117, 111, 116, 59]⟩) cs[34]?)
          have hck : wr.cell? ⟨b, 34, none⟩ = some (.slice (some ⟨g, 0, none⟩) 6 cap) := (cellH hBs.blk 34).trans hcl
          have hx0 : ∀ h, ((⟨#[34]⟩ : ByteArray)[0]'h).toNat = 34 := fun _ => rfl
          have hz0 : (⟨#[34]⟩ : ByteArray).size = 1 := rfl
          have hzw := hB.size
          clear hB hBs hcl hlg hRB
          go_wp2_with fail
          refine (hcnt0 _).mono ?_
          rintro e w' ⟨rfl, rfl⟩
          by_cases hn : n0 = 0
          · have hnI : ((n0 : Int) == 0) = true := by simp; omega
            have hnI2 : (n0 : Int) = 0 := by omega
            go_wp2_with fail
            go_roundg 4
            case rel => exact ⟨HB.out, .inr (.inl ⟨rfl, rfl, by rw [hnI2]; simp, by congr 1; symm; rw [decide_eq_false (by omega)]⟩)⟩
            case measure => omega
          · have hnI : ((n0 : Int) == 0) = false := by simp; omega
            have hnI2 : ¬ (n0 : Int) = 0 := by omega
            have f2 : IntKind.i64.wrap ((n0 : Int) * 5) = (n0 : Int) * 5 := IntWalk.i64_in _ (by omega)
            have f3 : IntKind.i64.wrap ((s.size : Int) + (n0 : Int) * 5) = (s.size : Int) + (n0 : Int) * 5 := IntWalk.i64_in _ (by omega)
            go_upto_region 9 with fail
            go_quiet (fail)
            have hB2 := HB.out.trans ((bdN0 (Below.refl _ _) nq).mono hzw)
            have HB2 := Lib.hid hB2
            clear hB2
            go_wp2_with fail
            go_roundg 4
            case rel => exact ⟨HB2.out, .inr (.inl ⟨rfl, rfl, rfl, by congr 1; symm; rw [decide_eq_true (by omega)]⟩)⟩
            case measure => omega
        · have HB := Lib.hid hB
          have rk := cell_kept HRC.out.2.1 hB
          have hBs := HH.out.on hB
          obtain ⟨g, cap, hcl, hlg, hRB⟩ := (hBs.rep 62 (by decide) : RepC lo wr (some ⟨#[38, 103, 116, 59]⟩) cs[62]?)
          have hck : wr.cell? ⟨b, 62, none⟩ = some (.slice (some ⟨g, 0, none⟩) 4 cap) := (cellH hBs.blk 62).trans hcl
          have hx0 : ∀ h, ((⟨#[62]⟩ : ByteArray)[0]'h).toNat = 62 := fun _ => rfl
          have hz0 : (⟨#[62]⟩ : ByteArray).size = 1 := rfl
          have hzw := hB.size
          clear hB hBs hcl hlg hRB
          go_wp2_with fail
          refine (hcnt1 _).mono ?_
          rintro e w' ⟨rfl, rfl⟩
          by_cases hn : n1 = 0
          · have hnI : ((n1 : Int) == 0) = true := by simp; omega
            have hnI2 : (n1 : Int) = 0 := by omega
            go_wp2_with fail
            go_roundg 3
            case rel => exact ⟨HB.out, .inr (.inr (.inl ⟨rfl, rfl, by rw [hnI2]; simp, by congr 1; rw [decide_eq_decide]; omega⟩))⟩
            case measure => omega
          · have hnI : ((n1 : Int) == 0) = false := by simp; omega
            have hnI2 : ¬ (n1 : Int) = 0 := by omega
            have f2 : IntKind.i64.wrap ((n1 : Int) * 3) = (n1 : Int) * 3 := IntWalk.i64_in _ (by omega)
            have f3 : IntKind.i64.wrap ((s.size : Int) + (n0 : Int) * 5 + (n1 : Int) * 3) = (s.size : Int) + (n0 : Int) * 5 + (n1 : Int) * 3 := IntWalk.i64_in _ (by omega)
            go_upto_region 9 with fail
            go_quiet (fail)
            have hB2 := HB.out.trans ((bdN0 (Below.refl _ _) nq).mono hzw)
            have HB2 := Lib.hid hB2
            clear hB2
            go_wp2_with fail
            go_roundg 3
            case rel => exact ⟨HB2.out, .inr (.inr (.inl ⟨rfl, rfl, rfl, by congr 1; symm; rw [decide_eq_true (by omega)]⟩))⟩
            case measure => omega
        · have HB := Lib.hid hB
          have rk := cell_kept HRC.out.2.2.1 hB
          have hBs := HH.out.on hB
          obtain ⟨g, cap, hcl, hlg, hRB⟩ := (hBs.rep 60 (by decide) : RepC lo wr (some ⟨#[38, 108, 116, 59]⟩) cs[60]?)
          have hck : wr.cell? ⟨b, 60, none⟩ = some (.slice (some ⟨g, 0, none⟩) 4 cap) := (cellH hBs.blk 60).trans hcl
          have hx0 : ∀ h, ((⟨#[60]⟩ : ByteArray)[0]'h).toNat = 60 := fun _ => rfl
          have hz0 : (⟨#[60]⟩ : ByteArray).size = 1 := rfl
          have hzw := hB.size
          clear hB hBs hcl hlg hRB
          go_wp2_with fail
          refine (hcnt2 _).mono ?_
          rintro e w' ⟨rfl, rfl⟩
          by_cases hn : n2 = 0
          · have hnI : ((n2 : Int) == 0) = true := by simp; omega
            have hnI2 : (n2 : Int) = 0 := by omega
            go_wp2_with fail
            go_roundg 2
            case rel => exact ⟨HB.out, .inr (.inr (.inr (.inl ⟨rfl, rfl, by rw [hnI2]; simp, by congr 1; rw [decide_eq_decide]; omega⟩)))⟩
            case measure => omega
          · have hnI : ((n2 : Int) == 0) = false := by simp; omega
            have hnI2 : ¬ (n2 : Int) = 0 := by omega
            have f2 : IntKind.i64.wrap ((n2 : Int) * 3) = (n2 : Int) * 3 := IntWalk.i64_in _ (by omega)
            have f3 : IntKind.i64.wrap ((s.size : Int) + (n0 : Int) * 5 + (n1 : Int) * 3 + (n2 : Int) * 3) = (s.size : Int) + (n0 : Int) * 5 + (n1 : Int) * 3 + (n2 : Int) * 3 := IntWalk.i64_in _ (by omega)
            go_upto_region 9 with fail
            go_quiet (fail)
            have hB2 := HB.out.trans ((bdN0 (Below.refl _ _) nq).mono hzw)
            have HB2 := Lib.hid hB2
            clear hB2
            go_wp2_with fail
            go_roundg 2
            case rel => exact ⟨HB2.out, .inr (.inr (.inr (.inl ⟨rfl, rfl, rfl, by congr 1; symm; rw [decide_eq_true (by omega)]⟩)))⟩
            case measure => omega
        · have HB := Lib.hid hB
          have rk := cell_kept HRC.out.2.2.2 hB
          have hBs := HH.out.on hB
          obtain ⟨g, cap, hcl, hlg, hRB⟩ := (hBs.rep 38 (by decide) : RepC lo wr (some ⟨#[38, 97, 109, 112, 59]⟩) cs[38]?)
          have hck : wr.cell? ⟨b, 38, none⟩ = some (.slice (some ⟨g, 0, none⟩) 5 cap) := (cellH hBs.blk 38).trans hcl
          have hx0 : ∀ h, ((⟨#[38]⟩ : ByteArray)[0]'h).toNat = 38 := fun _ => rfl
          have hz0 : (⟨#[38]⟩ : ByteArray).size = 1 := rfl
          have hzw := hB.size
          clear hB hBs hcl hlg hRB
          go_wp2_with fail
          refine (hcnt3 _).mono ?_
          rintro e w' ⟨rfl, rfl⟩
          by_cases hn : n3 = 0
          · have hnI : ((n3 : Int) == 0) = true := by simp; omega
            have hnI2 : (n3 : Int) = 0 := by omega
            go_wp2_with fail
            go_roundg 1
            case rel => exact ⟨HB.out, .inr (.inr (.inr (.inr (⟨rfl, rfl, by rw [hnI2]; simp, by congr 1; rw [decide_eq_decide]; omega⟩))))⟩
            case measure => omega
          · have hnI : ((n3 : Int) == 0) = false := by simp; omega
            have hnI2 : ¬ (n3 : Int) = 0 := by omega
            have f2 : IntKind.i64.wrap ((n3 : Int) * 4) = (n3 : Int) * 4 := IntWalk.i64_in _ (by omega)
            have f3 : IntKind.i64.wrap ((s.size : Int) + (n0 : Int) * 5 + (n1 : Int) * 3 + (n2 : Int) * 3 + (n3 : Int) * 4) = (s.size : Int) + (n0 : Int) * 5 + (n1 : Int) * 3 + (n2 : Int) * 3 + (n3 : Int) * 4 := IntWalk.i64_in _ (by omega)
            go_upto_region 9 with fail
            go_quiet (fail)
            have hB2 := HB.out.trans ((bdN0 (Below.refl _ _) nq).mono hzw)
            have HB2 := Lib.hid hB2
            clear hB2
            go_wp2_with fail
            go_roundg 1
            case rel => exact ⟨HB2.out, .inr (.inr (.inr (.inr (⟨rfl, rfl, rfl, by congr 1; symm; rw [decide_eq_true (by omega)]⟩))))⟩
            case measure => omega
        · have HB := Lib.hid hB
          clear hB hcnt0 hcnt1 hcnt2 hcnt3
          go_wp2_with fail
          go_meet
          case rel =>
            have hN := HN.out
            refine ⟨?_, ?_, HB.out⟩
            · rw [hN]; push_cast; rfl
            · rw [hN]; congr 1; rw [decide_eq_decide]; omega
    · have hI32 : ¬ (32 : Int) ≤ s.size := by omega
      rw [show decide ((32 : Int) ≤ (s.size : Int)) = false from decide_eq_false hI32]
      clear hI32 hA
      go_wp2_with fail
      go_loopg [10, 5, 6] (s.size + 1) (fun f s10 s5 s6 wx => ∃ i K : Nat, s10 = .int .i64 (i : Int) ∧ f + i = s.size + 1 ∧ i ≤ s.size ∧ K = s.size - i + escN (s.data.toList.take i) ∧ s5 = .int .i64 (K : Int) ∧ s6 = .bool (decide (i < escN (s.data.toList.take i))) ∧ Below w.heap.size w wx)
      case atStart => exact ⟨0, s.size, rfl, rfl, Nat.zero_le _, by rw [T_zero]; omega, rfl, rfl, Below.refl _ _⟩
      case round =>
        obtain ⟨i, K, rfl, hg, hi, hK, rfl, rfl, hB⟩ := hrel
        have HG := Lib.hid (And.intro hg hK); have HB := Lib.hid hB
        have hi0 : (0 : Int) ≤ i := by omega
        have hT := T_ge s i hi
        have f1 : IntKind.i64.wrap ((i : Int) + 1) = (i : Int) + 1 := IntWalk.i64_in _ (by omega)
        by_cases hlt : i < s.size
        · have hiI : (i : Int) < s.size := by omega
          have hbt := get_bt s
          have hx0 := bt_nonneg s i
          have hx1 : bt s i < 256 := by have := bt_le s i; omega
          have hn := (bt_nat s i).2
          have hBs := HH.out.on hB
          have hrep := hBs.rep (bt s i).toNat hn
          have hts := T_step s i hlt
          have hTl := T_ge s (i + 1) hlt
          cases hr : rplL esc4 (bt s i).toNat with
          | none =>
            rw [hr] at hrep
            have hrn : rplN s i = 1 := by unfold rplN; rw [hr]
            rw [hrn] at hts
            have hcl : wr.cell? ⟨b, (bt s i).toNat, none⟩ = some (.slice none 0 0) := (cellH hBs.blk _).trans hrep
            have HTS := Lib.hid hts; have HT := Lib.hid hT; have HLT := Lib.hid hlt
            clear hg hK hB hBs hrep hts hrn hr hn hTl hT hlt
            go_wp2_with fail
            go_roundg (s.size - i)
            case rel => exact ⟨i + 1, K, by simp, by have := HG.out.1; have := HLT.out; omega, HLT.out, by have := HG.out.2; have := HTS.out; have := HLT.out; omega, rfl, by congr 1; rw [decide_eq_decide, HTS.out]; omega, HB.out⟩
            case measure => have := HG.out; have := HLT.out; omega
          | some r =>
            rw [hr] at hrep
            have hrn : rplN s i = r.size := by unfold rplN; rw [hr]
            rw [hrn] at hts
            obtain ⟨g, cap, hcl0, _, _⟩ := hrep
            have hcl : wr.cell? ⟨b, (bt s i).toNat, none⟩ = some (.slice (some ⟨g, 0, none⟩) r.size cap) := (cellH hBs.blk _).trans hcl0
            have hrs := rpl_size hr hn
            have f2 : IntKind.i64.wrap ((r.size : Int) - 1) = (r.size : Int) - 1 := IntWalk.i64_in _ (by omega)
            have f3 : IntKind.i64.wrap ((K : Int) + ((r.size : Int) - 1)) = ((K + (r.size - 1) : Nat) : Int) := by rw [IntWalk.i64_in _ (by omega)]; omega
            have hr2 : 2 ≤ r.size := rpl_two hr hn
            have HTS := Lib.hid hts; have HT := Lib.hid hT; have HLT := Lib.hid hlt; have HRS := Lib.hid (And.intro hrs hr2)
            clear hg hK hB hBs hcl0 hts hrn hr hn hTl hT hlt hrs hr2
            go_wp2_with fail
            go_roundg (s.size - i)
            case rel => exact ⟨i + 1, K + (r.size - 1), by simp, by have := HG.out.1; have := HLT.out; omega, HLT.out, by have := HG.out.2; have := HTS.out; have := HLT.out; have := HRS.out; omega, by first | rfl | (congr 1; push_cast; omega), by congr 1; symm; rw [decide_eq_true]; have := HTS.out; have := HRS.out; have := HT.out; omega, HB.out⟩
            case measure => have := HG.out; have := HLT.out; omega
        · have hiI : ¬ (i : Int) < s.size := by omega
          have hie : i = s.size := by omega
          have HIE := Lib.hid hie
          clear hg hK hB hlt hie
          go_wp2_with fail
          go_meet
          case rel =>
            have hT := T_all s i (by have := HIE.out; omega)
            have hK := HG.out.2
            have hie := HIE.out
            rw [hT] at hK ⊢
            refine ⟨by congr 2; omega, by rw [hie], HB.out⟩
  case rest =>
    obtain ⟨rfl, rfl, hB⟩ := hcut
    obtain ⟨N, hN⟩ : ∃ N, escN s.data.toList = N := ⟨_, rfl⟩
    have hge := escN_ge s.data.toList
    have hll : s.data.toList.length = s.size := rfl
    rw [hll] at hge
    rw [hN] at hge ⊢
    have HN := Lib.hid hN; have HB := Lib.hid hB
    clear hN hB hll
    by_cases hany : s.size < N
    · rw [decide_eq_true hany]
      have hmk := fun W => run_make_row' (P := Tryz.prog) 60 5 (.int .u8 0) 1 Tryz.underlying60 binfo rfl .i64 .i64 N (by omega) (by omega) W
      have hNI : (N : Int) ≤ 24000000000 := by omega
      go_upto_region 22 with fail
      clear hmk
      have HBA := Lib.hid (HB.out.trans (((Below.refl wc.heap.size wc).alloc (Nat.le_refl _) (.cells (madeCells #[.int .u8 0] N) 5)).mono HB.out.size))
      have hb0 : (wc.alloc (.cells (madeCells #[.int .u8 0] N) 5)).heap[wc.heap.size]? = some (.cells (madeCells #[.int .u8 0] N) 5 (0, 0)) := push_new _ _ _ rfl
      have hcz : (madeCells #[.int .u8 0] N).size = N := size_madeCells _ _
      have hlg := HB.out.size
      generalize wc.alloc (.cells (madeCells #[.int .u8 0] N) 5) = W0 at *
      generalize wc.heap.size = g0 at *
      generalize madeCells #[.int .u8 0] N = cur0 at *
      have HB0 := Lib.hid (And.intro hb0 hcz); have HLG := Lib.hid hlg
      clear hb0 hcz hlg hany
      go_wp2_with fail
      go_loopg [14, 13] (s.size + 1) (fun f s14 s13 wx => ∃ i j : Nat, ∃ cur : Array Value, s14 = .int .i64 (i : Int) ∧ f + i = s.size + 1 ∧ i ≤ s.size ∧ j = escN (s.data.toList.take i) ∧ s13 = .int .i64 (j : Int) ∧ wx.heap[g0]? = some (.cells cur 5 (0, 0)) ∧ cur.size = N ∧ cur.toList.take j = ((s.data.toList.take i).flatMap escC).map (fun c => Value.int .u8 (c.toNat : Int)) ∧ Below w.heap.size w wx)
      case atStart => exact ⟨0, 0, cur0, rfl, rfl, Nat.zero_le _, rfl, rfl, HB0.out.1, HB0.out.2, by simp, HBA.out⟩
      case round =>
        obtain ⟨i, j, cur, rfl, hg, hi, hj, rfl, hcb, hcs, hct, hB⟩ := hrel
        have HG := Lib.hid (And.intro hg hj); have HBR := Lib.hid hB; have HCB := Lib.hid hcb; have HCS := Lib.hid hcs; have HCT := Lib.hid hct
        have hi0 : (0 : Int) ≤ i := by omega
        have hj0 : (0 : Int) ≤ j := by omega
        have hT := T_ge s i hi
        have f1 : IntKind.i64.wrap ((i : Int) + 1) = (i : Int) + 1 := IntWalk.i64_in _ (by omega)
        by_cases hlt : i < s.size
        · have hiI : (i : Int) < s.size := by omega
          have hbt := get_bt s
          have hx0 := bt_nonneg s i
          have hx1 : bt s i < 256 := by have := bt_le s i; omega
          have hn := (bt_nat s i).2
          have hBs := HH.out.on hB
          have hrep := hBs.rep (bt s i).toNat hn
          have hts := T_step s i hlt
          have hTN := T_le s (i + 1)
          rw [HN.out] at hTN
          have htk := take_step s i hlt
          have hbn := bt_byte s i hlt
          cases hr : rplL esc4 (bt s i).toNat with
          | none =>
            rw [hr] at hrep
            have hrn : rplN s i = 1 := by unfold rplN; rw [hr]
            rw [hrn] at hts
            have hcl : wr.cell? ⟨b, (bt s i).toNat, none⟩ = some (.slice none 0 0) := (cellH hBs.blk _).trans hrep
            have hjN : j < N := by omega
            have hjI : (j : Int) < N := by omega
            have f4 : IntKind.i64.wrap ((j : Int) + 1) = (j : Int) + 1 := IntWalk.i64_in _ (by omega)
            obtain ⟨y, hy⟩ : ∃ y, wr.cell? ⟨g0, j, none⟩ = some y := ⟨cur[j]'(by omega), (cellH hcb j).trans (Array.getElem?_eq_getElem (by omega))⟩
            have hfy := freeH hcb j
            have hne : s.data.toList.take (i + 1) = s.data.toList.take i ++ [s[i]] := htk
            have hesc : escC s[i] = [s[i]] := esc_none (by rw [← hbn]; exact hr)
            have hnew : (cur.setIfInBounds j (.int .u8 (bt s i))).toList.take (j + 1) = ((s.data.toList.take (i + 1)).flatMap escC).map (fun c => Value.int .u8 (c.toNat : Int)) := by
              rw [hne, List.flatMap_append, List.map_append, ← hct, List.flatMap_cons, List.flatMap_nil, List.append_nil, hesc, Array.toList_setIfInBounds]
              rw [List.take_succ_eq_append_getElem (by rw [List.length_set]; show j < cur.size; omega), List.take_set_of_le (Nat.le_refl _), List.getElem_set_self]
              simp only [List.map_cons, List.map_nil]
              rw [← get_bt s i hlt]
            have HNEW := Lib.hid hnew; have HTS := Lib.hid hts; have HLT := Lib.hid hlt
            clear hg hj hcb hcs hct hB hBs hrep hts hrn hr hn hT hTN htk hbn hne hesc hnew hlt hjN
            go_wp2_with fail
            go_roundg (s.size - i)
            case rel => exact ⟨i + 1, j + 1, _, by simp, by have := HG.out.1; have := HLT.out; omega, HLT.out, by have := HG.out.2; have := HTS.out; omega, by simp, setH HCB.out j _, by rw [Array.size_setIfInBounds]; exact HCS.out, HNEW.out, HBR.out.setCell (by exact HLG.out) _⟩
            case measure => have := HG.out; have := HLT.out; omega
          | some r =>
            rw [hr] at hrep
            have hrn : rplN s i = r.size := by unfold rplN; rw [hr]
            rw [hrn] at hts
            obtain ⟨g, cap, hcl0, hgl, hRB⟩ := hrep
            have hcl : wr.cell? ⟨b, (bt s i).toNat, none⟩ = some (.slice (some ⟨g, 0, none⟩) r.size cap) := (cellH hBs.blk _).trans hcl0
            have hrs := rpl_size hr hn
            have hbg : b ≠ g0 := by have := lt_some HH.out.blk; have := HLG.out; omega
            have hjN : j + r.size ≤ N := by omega
            have hjI : (j : Int) ≤ N := by omega
            have hNj : ¬ N = j := by omega
            have hesc : escC s[i] = r.data.toList := esc_some (by rw [← hbn]; exact hr)
            obtain ⟨cs, hcsd⟩ : ∃ cs, r.data.toList.map (fun c => Value.int .u8 (c.toNat : Int)) = cs := ⟨_, rfl⟩
            have hcsl : cs.length = r.size := by rw [← hcsd, List.length_map]; rfl
            have hsrc : ∀ k v, cs[k]? = some v → wr.drew.cell? ((⟨g, 0, none⟩ : Addr).add k) = some v := fun k v hk => by
              obtain ⟨ca, fz, hg1, hg2⟩ := hRB
              have hkl : k < r.size := by rw [← hcsl]; exact (List.getElem?_eq_some_iff.1 hk).1
              rw [Lib.add_plain, Nat.zero_add]
              show wr.cell? ⟨g, k, none⟩ = some v
              rw [cellH hg1 k, hg2 k hkl, ← hk, ← hcsd, List.getElem?_map, ← get_bt r k hkl]
              have : r.data.toList[k]? = some r[k] := by rw [List.getElem?_eq_getElem (show k < r.data.toList.length from hkl)]; rfl
              rw [this]
              rfl
            have hcp := run_copy_row (P := Tryz.prog) wr.drew 60 60 3 5 g0 j (N - j) (N - j) ⟨g, 0, none⟩ r.size cap cur 5 cs Tryz.underlying60 (by kernel_rfl) hcb (by rw [hcsl]; simp [Nat.min_def]; omega) hsrc (by rw [hcsl]; omega) (fun v hv => by rw [← hcsd] at hv; obtain ⟨c, _, rfl⟩ := List.mem_map.1 hv; rfl)
            rw [hcsl] at hcp
            obtain ⟨nc, hnc⟩ : ∃ nc, (cur.toList.take j ++ cs ++ cur.toList.drop (j + r.size)).toArray = nc := ⟨_, rfl⟩
            rw [hnc] at hcp
            have hjt : (cur.toList.take j).length = j := by rw [List.length_take, Nat.min_eq_left]; show j ≤ cur.size; omega
            have hncs : nc.size = N := by
              rw [← hnc, List.size_toArray, List.length_append, List.length_append, hjt, hcsl, List.length_drop]
              show j + r.size + (cur.size - (j + r.size)) = N
              omega
            have hnct : nc.toList.take (j + r.size) = ((s.data.toList.take (i + 1)).flatMap escC).map (fun c => Value.int .u8 (c.toNat : Int)) := by
              rw [htk, List.flatMap_append, List.map_append, ← hct, List.flatMap_cons, List.flatMap_nil, List.append_nil, hesc, hcsd, ← hnc]
              exact List.take_left' (by rw [List.length_append, hjt, hcsl])
            have hS0 : wr.drew.cell? ⟨b, (bt s i).toNat, none⟩ = some (.slice (some ⟨g, 0, none⟩) r.size cap) := hcl
            have hS1 : (wr.drew.setRow g0 nc).cell? ⟨b, (bt s i).toNat, none⟩ = some (.slice (some ⟨g, 0, none⟩) r.size cap) := (cell_setRow_other _ _ _ _ hbg).trans hcl
            have hW : (wr.drew.setRow g0 nc).heap[g0]? = some (.cells nc 5 (0, 0)) := setRow_heap wr.drew g0 cur nc 5 (0, 0) hcb
            have hBW : Below w.heap.size w (wr.drew.setRow g0 nc) := ⟨hB.os, hB.tape, hB.output, by simpa [World.setRow] using hB.size, fun k hk => (setRow_other _ _ _ _ (by have := HLG.out; omega)).trans (hB.block k hk)⟩
            have f5 : IntKind.i64.wrap ((j : Int) + (r.size : Int)) = ((j + r.size : Nat) : Int) := by rw [IntWalk.i64_in _ (by omega)]; omega
            have HTS := Lib.hid hts; have HLT := Lib.hid hlt; have HNC := Lib.hid (And.intro hW (And.intro hncs (And.intro hnct hBW)))
            clear hg hj hcb hcs hct hB hBs hcl0 hts hrn hr hn hT hTN htk hbn hesc hlt hcsd hcsl hsrc hnc hjt hncs hnct hW hBW hRB hgl hrs
            go_upto_region 28 with fail
            refine wp_region_held_drew (S := fun w' => w'.cell? ⟨b, (bt s i).toNat, none⟩ = some (Value.slice (some ⟨g, 0, none⟩) r.size cap)) (by kernel_rfl) (hS0) (fun hHeld => ?_)
            refine wpAnyH_take (i := 0) (v := ?_) rfl (by kernel_rfl) (by kernel_rfl) (by kernel_rfl) (fun _ _ _ h => h) (Or.inl ⟨by rfl, ?_⟩) hHeld ?_
            rotate_left
            · intro w hSw; (try dsimp only at hSw); first | (go_simp; done) | (go_simp; with_reducible rfl)
            try simp only [Act.put, List.setIfInBounds_toArray, List.set_cons_zero, List.set_cons_succ, List.getElem_toArray, List.getElem_cons_zero]
            refine wpAnyH_take (i := 1) (v := ?_) rfl (by kernel_rfl) (by kernel_rfl) (by kernel_rfl) (fun _ _ _ h => h) (Or.inl ⟨by rfl, ?_⟩) hHeld ?_
            rotate_left
            · intro w hSw; (try dsimp only at hSw); first | (go_simp; done) | (go_simp; with_reducible rfl)
            try simp only [Act.put, List.setIfInBounds_toArray, List.set_cons_zero, List.set_cons_succ, List.getElem_toArray, List.getElem_cons_zero, List.getElem_cons_succ]
            refine wpAnyH_take (i := 2) (v := ?_) rfl (by kernel_rfl) (by kernel_rfl) (by kernel_rfl) (fun _ _ _ h => h) (Or.inl ⟨by rfl, ?_⟩) hHeld ?_
            rotate_left
            · intro w hSw; (try dsimp only at hSw); first | (go_simp; done) | (go_simp; with_reducible rfl)
            try simp only [Act.put, List.setIfInBounds_toArray, List.set_cons_zero, List.set_cons_succ, List.getElem_toArray, List.getElem_cons_zero, List.getElem_cons_succ]
            refine wpAnyH_take (i := 3) (v := ?_) rfl (by kernel_rfl) (by kernel_rfl) (by kernel_rfl) (fun _ _ _ h => h) (Or.inl ⟨by rfl, ?_⟩) hHeld ?_
            rotate_left
            · intro w hSw; (try dsimp only at hSw); first | (go_simp; done) | (go_simp; with_reducible rfl)
            try simp only [Act.put, List.setIfInBounds_toArray, List.set_cons_zero, List.set_cons_succ, List.getElem_toArray, List.getElem_cons_zero, List.getElem_cons_succ]
            refine wpAnyH_take (i := 4) (v := ?_) rfl (by kernel_rfl) (by kernel_rfl) (by kernel_rfl) (fun _ _ _ h => h) (Or.inl ⟨by rfl, ?_⟩) hHeld ?_
            rotate_left
            · intro w hSw; (try dsimp only at hSw); first | (go_simp; done) | (go_simp; with_reducible rfl)
            try simp only [Act.put, List.setIfInBounds_toArray, List.set_cons_zero, List.set_cons_succ, List.getElem_toArray, List.getElem_cons_zero, List.getElem_cons_succ]
            refine wpAnyH_take (i := 5) (v := ?_) rfl (by kernel_rfl) (by kernel_rfl) (by kernel_rfl) (fun _ _ _ h => h) (Or.inl ⟨by rfl, ?_⟩) hHeld ?_
            rotate_left
            · intro w hSw; (try dsimp only at hSw); first | (go_simp; done) | (go_simp; with_reducible rfl)
            try simp only [Act.put, List.setIfInBounds_toArray, List.set_cons_zero, List.set_cons_succ, List.getElem_toArray, List.getElem_cons_zero, List.getElem_cons_succ]
            refine wpAnyH_take (i := 6) (v := ?_) rfl (by kernel_rfl) (by kernel_rfl) (by kernel_rfl) (fun _ _ _ h => h) (Or.inl ⟨by rfl, ?_⟩) hHeld ?_
            rotate_left
            · intro w hSw; (try dsimp only at hSw); first | (go_simp; done) | (go_simp; with_reducible rfl)
            try simp only [Act.put, List.setIfInBounds_toArray, List.set_cons_zero, List.set_cons_succ, List.getElem_toArray, List.getElem_cons_zero, List.getElem_cons_succ]
            refine wpAnyH_take (i := 7) (v := ?_) rfl (by kernel_rfl) (by kernel_rfl) (by kernel_rfl) (fun _ _ _ h => h) (Or.inl ⟨by rfl, ?_⟩) hHeld ?_
            rotate_left
            · intro w hSw; (try dsimp only at hSw); first | (go_simp; done) | (go_simp; with_reducible rfl)
            try simp only [Act.put, List.setIfInBounds_toArray, List.set_cons_zero, List.set_cons_succ, List.getElem_toArray, List.getElem_cons_zero, List.getElem_cons_succ]
            refine wpAnyH_take (i := 8) (v := ?_) rfl (by kernel_rfl) (by kernel_rfl) (by kernel_rfl) (fun _ _ _ h => h) (Or.inl ⟨by rfl, ?_⟩) hHeld ?_
            rotate_left
            · intro w hSw; (try dsimp only at hSw); first | (go_simp; done) | (go_simp; with_reducible rfl)
            try simp only [Act.put, List.setIfInBounds_toArray, List.set_cons_zero, List.set_cons_succ, List.getElem_toArray, List.getElem_cons_zero, List.getElem_cons_succ]
            refine wpAnyH_take (i := 9) (v := ?_) rfl (by kernel_rfl) (by kernel_rfl) (by kernel_rfl) (fun _ _ _ h => h) (Or.inl ⟨by rfl, ?_⟩) hHeld ?_
            rotate_left
            · intro w hSw; (try dsimp only at hSw); first | (go_simp; done) | (go_simp; with_reducible rfl)
            try simp only [Act.put, List.setIfInBounds_toArray, List.set_cons_zero, List.set_cons_succ, List.getElem_toArray, List.getElem_cons_zero, List.getElem_cons_succ]
            refine wpAnyH_ready (rs := [10]) (by kernel_rfl) (by simp) ?_
            refine AllReadyH.cons rfl (fun K hK => ?_) AllReadyH.nil
            go_simp
            refine hK.out _ _ (hS1) (fun hHeld => ?_)
            clear hK K
            refine wpAnyH_take (i := 11) (v := ?_) rfl (by kernel_rfl) (by kernel_rfl) (by kernel_rfl) (fun _ _ _ h => h) (Or.inl ⟨by rfl, ?_⟩) hHeld ?_
            rotate_left
            · intro w hSw; (try dsimp only at hSw); first | (go_simp; done) | (go_simp; with_reducible rfl)
            try simp only [Act.put, List.setIfInBounds_toArray, List.set_cons_zero, List.set_cons_succ, List.getElem_toArray, List.getElem_cons_zero, List.getElem_cons_succ]
            refine wpAnyH_take (i := 12) (v := ?_) rfl (by kernel_rfl) (by kernel_rfl) (by kernel_rfl) (fun _ _ _ h => h) (Or.inl ⟨by rfl, ?_⟩) hHeld ?_
            rotate_left
            · intro w hSw; (try dsimp only at hSw); first | (go_simp; done) | (go_simp; with_reducible rfl)
            try simp only [Act.put, List.setIfInBounds_toArray, List.set_cons_zero, List.set_cons_succ, List.getElem_toArray, List.getElem_cons_zero, List.getElem_cons_succ]
            refine wpAnyH_done (by kernel_rfl) ?_ _
            go_wp2_with fail
            go_roundg (s.size - i)
            case rel => exact ⟨i + 1, j + r.size, nc, by simp, by have := HG.out.1; have := HLT.out; omega, HLT.out, by have := HG.out.2; have := HTS.out; omega, by simp, HNC.out.1, HNC.out.2.1, HNC.out.2.2.1, HNC.out.2.2.2⟩
            case measure => have := HG.out; have := HLT.out; omega
        · have hiI : ¬ (i : Int) < s.size := by omega
          have hall := T_all s i (by omega)
          have hfull : s.data.toList.take i = s.data.toList := List.take_of_length_le (show s.data.toList.length ≤ i by show s.size ≤ i; omega)
          have hjN : j = N := by rw [hj, hall, HN.out]
          rw [hfull, hjN, ← hcs] at hct
          have hcl : cur.toList = (s.data.toList.flatMap escC).map (fun c => Value.int .u8 (c.toNat : Int)) := by
            rw [← hct]
            exact (List.take_of_length_le (Nat.le_refl _)).symm
          have hes : (escB s).size = N := by rw [← HN.out]; rfl
          have hby : Lib.Bytes wr g0 0 (escB s) := fun k hk => by
            rw [Nat.zero_add, cellH hcb k, ← Array.getElem?_toList, hcl, List.getElem?_map]
            have hk2 : k < (s.data.toList.flatMap escC).length := hk
            rw [List.getElem?_eq_getElem hk2]
            rfl
          have hback := Lib.run_convert_whole (P := Tryz.prog) wr 60 5 9 Tryz.underlying60 Tryz.underlying5 Tryz.underlying9 _ _ _ hby N
          rw [hes] at hback
          clear hg hj hcb hcs hct hB hcl hby hes hfull hjN hall
          go_wp2_with fail
          go_ret
          exact ⟨rfl, HBR.out⟩
    · rw [decide_eq_false hany]
      have hsame : s.data.toList.flatMap escC = s.data.toList := esc_same (by rw [HN.out]; show N = s.size; omega)
      have hs : escB s = s := by unfold escB; rw [hsame]
      have HS := Lib.hid hs
      clear hany hsame hs
      go_wp2_with fail
      go_ret
      exact ⟨by rw [HS.out]; rfl, HB.out⟩
end Go.Proofs.YtnmpbphnfiiafaaGreatDoor
