/-
  The iterator of utf.Fields: its contract.
-/
import Derived.RangeFuncNested
import Derived.RangeFuncBound
import Derived.RangeFuncCalls
import Derived.RangeFuncLeaves
import Derived.Shelf.Abstract
import Derived.Shelf.RegionOpen
import Derived.OwnWalkIn
import Derived.TacticsInMore
import Derived.LoopNIn
import Derived.LoopIn
import Derived.Test.YtdihhicjaaekhaaDoorFldW
namespace Go.Proofs.YtdihhicjaaekhaaDoor
open Go.RowKit Go.Shelf Go.PlainAid
attribute [local go_sem] Oper.semAt_some

theorem wpIn_scope_wide {n : Nat} {P : Program} {c : Code} {Q : Exit → Act → World → Prop} {a : Act} {w : World} (h : c.wpIn Fence.wide n P (Exit.noGoto Q) a w) : (Code.scope c).wpIn Fence.wide n P Q a w :=
  wpIn_wide.2 (wp_scope_straight (wpIn_wide.1 h))

/-- What the iterator tells: a place and the text from there on to another place, no blank in it. -/
def FldOk (s : ByteArray) (x : Int × ByteArray) : Prop := ∃ f e : Nat, f < e ∧ e ≤ s.size ∧ (∀ k, f ≤ k → k < e → bBlank (bt s k) = false) ∧ x = ((f : Int), s.extract f e)
/-- Where a field is open, as the program tells it. -/
def opn (o : Option Nat) : Int := match o with | none => -1 | some f => (f : Int)

set_option maxRecDepth 100000 in
set_option maxHeartbeats 2000000 in
theorem fields1_in (n : Nat) (hn : 1 ≤ n) (l Bs : Nat) (s : ByteArray) (hs : s.size ≤ 1000000000000000) (Kp : World → World → Prop)
    (hKc : ∀ A B : World, Kp A B → A.cell? ⟨Bs, 0, none⟩ = some (.string s) → B.cell? ⟨Bs, 0, none⟩ = some (.string s)) (J Jx : List (Int × ByteArray) → World → Prop)
    (hY : ∀ pre x W, FldOk s x → J pre W → pre.length < (flds s).length → YieldAt Fence.wide (n - 1) Tryd.prog l #[.int .i64 x.1, .string x.2] W fun e W' =>
      (e = .returned (.bool true) ∧ J (pre ++ [x]) W' ∧ Kp W W') ∨ (e = .returned (.bool false) ∧ Jx (pre ++ [x]) W'))
    (W : World) (hBs : W.cell? ⟨Bs, 0, none⟩ = some (.string s)) (h0 : J [] W) :
    CallsIn Fence.wide n Tryd.prog 51 #[.func (.yield l) #[] #[], .pointer (some ⟨Bs, 0, none⟩)] W fun e W' => (∃ v, e = .returned v) ∧
      ((∃ ys, ys = (flds s).map (fldV s) ∧ J ys W') ∨ (∃ pre, pre <+: (flds s).map (fldV s) ∧ Jx pre W')) := by
  have bl := blank_any
  refine callsIn_of_wp Tryd.func51 rfl trivial ?_ rfl
  simp only [Tryd.ntmps51, List.size_toArray, List.length_cons, List.length_nil, Nat.reduceAdd, Nat.reduceSub, Array.replicate_succ, Array.replicate_zero, List.push_toArray, List.append_toArray, List.nil_append, List.cons_append]
  refine wpIn_scope_wide ?_
  gi_wp2
  refine wpIn_label ?_
  gi_wp2
  gi_loopw [3, 4] (fun p i wr => ∃ k : Nat, i = .int .i64 (k : Int) ∧ wr.cell? ⟨Bs, 0, none⟩ = some (.string s) ∧
      ((k ≤ s.size ∧ p = .int .i64 (opn (fldS s k).2) ∧ J ((fldS s k).1.map (fldV s)) wr) ∨ (k = s.size + 1 ∧ p = .int .i64 (-1) ∧ J ((flds s).map (fldV s)) wr)))
    (fun _ i _ => s.size + 2 - (intOf i).toNat)
  case atStart => exact ⟨0, rfl, hBs, .inl ⟨Nat.zero_le _, rfl, h0⟩⟩
  case round =>
    obtain ⟨k, rfl, hc, hst⟩ := hrel
    rcases hst with ⟨hk, rfl, hJ⟩ | ⟨rfl, rfl, hJ⟩
    · cases hp : fldS s k with
      | mk L o =>
        rw [hp] at hJ
        have hJ : J (L.map (fldV s)) wr := hJ
        have HP := Lib.hid hp
        have hd : (∃ h, bBlank (bt s k) = false ∧ ((s[k]'h).toNat : Int) = bt s k) ∨ (∃ h, bBlank (bt s k) = true ∧ ((s[k]'h).toNat : Int) = bt s k) ∨ k = s.size := by
          by_cases h : k < s.size
          · have hbt : ((s[k]'h).toNat : Int) = bt s k := by unfold bt; rw [dif_pos h]
            cases hb : bBlank (bt s k) with
            | false => exact .inl ⟨h, rfl, hbt⟩
            | true => exact .inr (.inl ⟨h, rfl, hbt⟩)
          · exact .inr (.inr (by omega))
        have hb0 := bt_nonneg s k
        have hb1 : bt s k < 256 := by have := bt_le s k; omega
        have hkl : (k : Int) ≤ s.size := by omega
        have i1 : IntKind.i64.wrap ((k : Int) + 1) = (k : Int) + 1 := IntWalk.i64_in _ (by omega)
        rcases hd with ⟨hk2, hb, hbt⟩ | ⟨hk2, hb, hbt⟩ | hk2
        · have HB2 := Lib.hid hb
          clear hp
          cases o with
          | none =>
            have ho : opn (none : Option Nat) = -1 := rfl
            gi_wp2_with (refine ⟨trivial, ?_⟩; gi_at_call 33; refine (callsIn_wide.2 (bl _ hb0 hb1 _)).mono ?_; rintro e w1 ⟨rfl, rfl⟩)
            go_roundw
            case rel => exact ⟨k + 1, by go_num, hc, .inl ⟨hk2, by rw [fldS_non HB2.out, HP.out]; rfl, by rw [fldS_non HB2.out, HP.out]; exact hJ⟩⟩
            case measure => simp [intOf]; omega
          | some f =>
            have ho : opn (some f) = (f : Int) := rfl
            have hf0 : ¬ (f : Int) < 0 := by omega
            gi_wp2_with (refine ⟨trivial, ?_⟩; gi_at_call 33; refine (callsIn_wide.2 (bl _ hb0 hb1 _)).mono ?_; rintro e w1 ⟨rfl, rfl⟩)
            go_roundw
            case rel => exact ⟨k + 1, by go_num, hc, .inl ⟨hk2, by rw [fldS_non HB2.out, HP.out]; rfl, by rw [fldS_non HB2.out, HP.out]; exact hJ⟩⟩
            case measure => simp [intOf]; omega
        · have HB2 := Lib.hid hb
          clear hp
          cases o with
          | none =>
            have ho : opn (none : Option Nat) = -1 := rfl
            gi_wp2_with (refine ⟨trivial, ?_⟩; gi_at_call 33; refine (callsIn_wide.2 (bl _ hb0 hb1 _)).mono ?_; rintro e w1 ⟨rfl, rfl⟩)
            refine ⟨fun _ h => (by cases h), ?_⟩
            gi_wp2
            go_roundw
            case rel => exact ⟨k + 1, by go_num, hc, .inl ⟨hk2, by rw [fldS_blank HB2.out]; rfl, by rw [fldS_blank HB2.out, fldC_none HP.out]; exact hJ⟩⟩
            case measure => simp [intOf]; omega
          | some f =>
            have ho : opn (some f) = (f : Int) := rfl
            have hf0 : ¬ (f : Int) < 0 := by omega
            have hfo := (fldS_open HP.out).1
            have hlen := fld_len hk (fun _ => HB2.out) HP.out
            have hpre := fldC_flds hk (fun _ => HB2.out)
            rw [fldC_some HP.out] at hpre
            have HPRE := Lib.hid hpre
            clear hpre
            obtain ⟨fn, tmps, assign, body, hy, hR⟩ := hY (L.map (fldV s)) ((f : Int), s.extract f k) wr ⟨f, k, (fldS_open HP.out).1, hk, (fldS_open HP.out).2, rfl⟩ hJ (by rw [List.length_map]; exact hlen)
            dsimp only at hy
            gi_wp2_with (refine ⟨trivial, ?_⟩; gi_at_call 33; refine (callsIn_wide.2 (bl _ hb0 hb1 _)).mono ?_; rintro e w1 ⟨rfl, rfl⟩)
            refine hR.mono ?_
            rintro e W3 (⟨rfl, hJ3, hk3⟩ | ⟨rfl, hJx3⟩)
            · gi_wp2
              go_roundw
              case rel => exact ⟨k + 1, by go_num, hKc _ _ hk3 hc, .inl ⟨hk2, by rw [fldS_blank HB2.out]; rfl, by rw [fldS_blank HB2.out, fldC_some HP.out, List.map_append]; exact hJ3⟩⟩
              case measure => simp [intOf]; omega
            · gi_wp2
              simp only [Exit.noGoto]
              refine bodyPost_ret (results_none rfl _ _ _) rfl ?_
              refine ⟨⟨_, rfl⟩, .inr ⟨_, ?_, hJx3⟩⟩
              obtain ⟨r, hr⟩ := HPRE.out
              exact ⟨r.map (fldV s), by rw [← hr, List.map_append, List.map_append]; rfl⟩
        · have HK := Lib.hid hk2
          have hk3 : ¬ k < s.size := by omega
          clear hp hk2
          cases o with
          | none =>
            have ho : opn (none : Option Nat) = -1 := rfl
            gi_wp2
            refine ⟨trivial, ?_⟩
            gi_wp2
            refine ⟨fun _ h => (by cases h), ?_⟩
            gi_wp2
            go_roundw
            case rel => exact ⟨k + 1, by go_num, hc, .inr ⟨by rw [HK.out], rfl, by unfold flds; rw [← HK.out, fldC_none HP.out]; exact hJ⟩⟩
            case measure => have := HK.out; simp [intOf]; omega
          | some f =>
            have ho : opn (some f) = (f : Int) := rfl
            have hf0 : ¬ (f : Int) < 0 := by omega
            have hfo := (fldS_open HP.out).1
            have hlen := fld_len hk (fun h => absurd h hk3) HP.out
            have hfl : flds s = L ++ [(f, k)] := by unfold flds; rw [← HK.out, fldC_some HP.out]
            have HFL := Lib.hid hfl
            obtain ⟨fn, tmps, assign, body, hy, hR⟩ := hY (L.map (fldV s)) ((f : Int), s.extract f k) wr ⟨f, k, (fldS_open HP.out).1, hk, (fldS_open HP.out).2, rfl⟩ hJ (by rw [List.length_map]; exact hlen)
            dsimp only at hy
            clear hfl hlen
            gi_wp2
            refine ⟨trivial, ?_⟩
            gi_wp2
            refine hR.mono ?_
            rintro e W3 (⟨rfl, hJ3, hk3⟩ | ⟨rfl, hJx3⟩)
            · gi_wp2
              go_roundw
              case rel => exact ⟨k + 1, by go_num, hKc _ _ hk3 hc, .inr ⟨by rw [HK.out], rfl, by rw [HFL.out, List.map_append]; exact hJ3⟩⟩
              case measure => have := HK.out; simp [intOf]; omega
            · gi_wp2
              simp only [Exit.noGoto]
              refine bodyPost_ret (results_none rfl _ _ _) rfl ?_
              refine ⟨⟨_, rfl⟩, .inr ⟨_, ?_, hJx3⟩⟩
              rw [HFL.out, List.map_append]
              exact List.prefix_refl _
    · have h1 : ¬ ((s.size + 1 : Nat) : Int) ≤ (s.size : Int) := by omega
      gi_wp2
      go_end0
      exact ⟨⟨_, rfl⟩, .inl hJ⟩

/-- utf.Fields hands back a function whose captured place holds the text. -/
theorem fields_any (s : ByteArray) (w : World) :
    Calls Tryd.prog 42 #[.string s] w fun e w' => e = .returned (.func (.func 51) #[] #[.pointer (some ⟨w.heap.size, 0, none⟩)]) ∧ w' = w.alloc (.cells #[.string s] 9) := by
  go_enter Tryd.func42, Tryd.ntmps42
  go_wp2_with fail
  go_ret
  exact ⟨rfl, rfl⟩
/-- What utf.Fields hands back has its contract. -/
theorem fields_stops (n : Nat) (hn : 1 ≤ n) (Bs n₀ : Nat) (s : ByteArray) (hs : s.size ≤ 1048576) (w : World) (hb : Bs < n₀) (hBs : Bs < w.heap.size) (hc : w.cell? ⟨Bs, 0, none⟩ = some (.string s)) :
    SeqStopsK Fence.wide n Tryd.prog 51 #[.pointer (some ⟨Bs, 0, none⟩)] (fun x : Int × ByteArray => #[Value.int .i64 x.1, Value.string x.2]) (Below n₀) (fun ys => ys = (flds s).map (fldV s))
      (fun pre => pre <+: (flds s).map (fldV s)) (flds s).length w := fun l J Jx W hW _ _ hY h0 =>
  fields1_in n hn l Bs s (by omega) (Below n₀) (fun A B h hA => (h.cell (p := ⟨Bs, 0, none⟩) hb).trans hA) J Jx (fun pre x W _ => hY pre x W) W ((hW.cell (p := ⟨Bs, 0, none⟩) hBs).trans hc) h0
/-- The same, the rounds being told what they are handed. -/
theorem fields_stops_ok (n : Nat) (hn : 1 ≤ n) (Bs : Nat) (s : ByteArray) (hs : s.size ≤ 1000000000000000) (w : World) (Kp : World → World → Prop)
    (hKc : ∀ A B : World, Kp A B → A.cell? ⟨Bs, 0, none⟩ = some (.string s) → B.cell? ⟨Bs, 0, none⟩ = some (.string s)) (hBs : Bs < w.heap.size) (hc : w.cell? ⟨Bs, 0, none⟩ = some (.string s)) :
    SeqStopsK Fence.wide n Tryd.prog 51 #[.pointer (some ⟨Bs, 0, none⟩)] (fun x : { x : Int × ByteArray // FldOk s x } => #[Value.int .i64 x.1.1, Value.string x.1.2]) Kp (fun ys => ys.map (·.1) = (flds s).map (fldV s))
      (fun pre => pre.map (·.1) <+: (flds s).map (fldV s)) (flds s).length w := fun l J Jx W hW _ _ hY h0 => by
  refine (fields1_in n hn l Bs s hs Kp hKc (fun pre W => ∃ pre', pre'.map (·.1) = pre ∧ J pre' W) (fun pre W => ∃ pre', pre'.map (·.1) = pre ∧ Jx pre' W) ?_ W ((hW.cell (p := ⟨Bs, 0, none⟩) hBs).trans hc) ⟨[], rfl, h0⟩).mono ?_
  · rintro pre x W hok ⟨pre', rfl, hJ⟩ hlt
    refine (hY pre' ⟨x, hok⟩ W hJ (by simpa using hlt)).mono ?_
    rintro e W' (⟨rfl, h1, h2⟩ | ⟨rfl, h1⟩)
    · exact .inl ⟨rfl, ⟨_, by simp, h1⟩, h2⟩
    · exact .inr ⟨rfl, ⟨_, by simp, h1⟩⟩
  · rintro e W' ⟨he, ⟨ys, rfl, pre', hp, hJ⟩ | ⟨pre, hpre, pre', rfl, hJ⟩⟩
    · exact ⟨he, .inl ⟨pre', hp, hJ⟩⟩
    · exact ⟨he, .inr ⟨pre', hpre, hJ⟩⟩
end Go.Proofs.YtdihhicjaaekhaaDoor
