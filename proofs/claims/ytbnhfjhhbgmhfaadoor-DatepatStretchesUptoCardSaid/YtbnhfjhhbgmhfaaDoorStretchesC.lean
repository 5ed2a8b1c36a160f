/-
  The statement 'DatepatStretchesUptoCardSaid': for every argument the law returns true. The frame: the arguments are opened, the walk (a theorem of the text before this one) is used, the tied card is closed.
-/
import Derived.Test.YtbnhfjhhbgmhfaaDoorCards
import Derived.Test.YtbnhfjhhbgmhfaaDoorTie
import Derived.Test.YtbnhfjhhbgmhfaaDoorStretchesW
import Derived.Test.YtbnhfjhhbgmhfaaDoorOpF
import Derived.ProofKit
import Derived.Deep.DeepHandedRow
import Derived.Lib.LaidTab
import Derived.OpenShut
import Derived.PinnedBridge
import Derived.Lib.LaidU8
import Derived.Lay
import Derived.LaidOnce
import Derived.SevenTiedAt
namespace Go.Proofs.YtbnhfjhhbgmhfaaDoor
namespace DatepatStretchesFrame
open Go.RowKit Go.Shelf Go.Lib Go.ChangeShapes Go.WideShapes Go.ChangeAt
open Go.ChangeMaps (open_string shut_string)

theorem own : ownKnob Tryd.prog.godebug = none := by kernel_rfl
theorem extra : U8Extra Tryd.prog Tryd.lays260_ren := ⟨by kernel_rfl, by kernel_rfl, by kernel_rfl, by kernel_rfl, by kernel_rfl, by kernel_rfl, by kernel_rfl⟩
theorem accept_eq : (Rows.laid_unicode_utf8_acceptRanges : DataW Unit) = acceptData := by kernel_rfl
theorem first_eq : Rows.laid_unicode_utf8_first = firstData := Pinned.utf8First_eq

theorem reads (os : Os) {H : Type} (enc : TypeId × Value → H) : ∃ places, DataW.whole enc Tryd.prog ((World.laidAll Tryd.prog os Rows.datepatStretchesUptoRow.laid).forCall (fun _ _ => 0) ⟨#[], #[.slice none 0 0, .string ⟨#[]⟩], []⟩).memory Tryd.f6.params.toList Rows.datepatStretchesSpec.vars false (#[.slice none 0 0, .string ⟨#[]⟩] : Array Value).toList 8 = some ([.nil, .lit (.string [])], [], places) :=
  ⟨[], by kernel_rfl⟩

set_option maxRecDepth 100000 in
theorem lifted (os : Os) (started : os.Started) (H : Type) (enc : TypeId × Value → H) (F : Stop.Interp) :
    ReturnsInHanded {} Tryd.checked os 6 .any ((Rows.OpenSpec.upto Rows.datepatStretchesSpec).preRow enc Tryd.prog Tryd.f6 Rows.datepatStretchesUptoRow.domain false Rows.datepatStretchesUptoRow.laid) (((Rows.OpenSpec.upto Rows.datepatStretchesSpec).at F).post enc Tryd.prog Tryd.f6 false true false false) := by
  obtain ⟨places, hx⟩ := reads os enc
  refine returnsInHanded_of_row (C := Tryd.checked) (s := (Rows.OpenSpec.upto Rows.datepatStretchesSpec)) own started (by kernel_rfl) Tryd.func6
    (witness_row_at (enc := enc) (C := Tryd.checked) false (World.laidAll Tryd.prog os Rows.datepatStretchesUptoRow.laid) #[.slice none 0 0, .string ⟨#[]⟩] (World.laidAll_os _ _ _) (by kernel_rfl) (by kernel_rfl) (by kernel_rfl)
      (OpenSpec.preRow_of_cond 8 hx (by kernel_rfl) (fun k hk => by cases hk; kernel_rfl) (by kernel_rfl) (by rw [MakeChecks.laidMetH_plain _ _ _ (by kernel_rfl)]; exact laidMet_laidAll _ (by kernel_rfl) (by kernel_rfl)))) ?_
  intro W base args ds gs before hval0 hW _ hcond hsz hL hSh _
  have hval : ∀ (j : Nat) t v, Tryd.f6.params[j]? = some t → args[j]? = some v → Value.okWide Tryd.prog W .any base t v := hval0
  have hW' := hW
  obtain ⟨p, q, hA0, hV, rfl, _, _⟩ := hW
  have hA : DataW.TrodAll enc Tryd.prog W 0 (fun _ => true) true Tryd.f6.params.toList args.toList ds p := hA0
  rw [Tryd.params6] at hA hval hsz
  obtain ⟨v0, v1, d0, d1, p0, p1, rfl, rfl, rfl, h0, h1⟩ := trodAll_two hA
  have hlt := DataW.TrodAll.lt hA
  obtain ⟨rfl, rfl⟩ := trodVars_none hV
  obtain ⟨L0, hv0, hL0⟩ := open_strF (hval 0 23 v0 rfl rfl) h0 (by have h := of_decide_eq_true (hcond _ rfl); simp only [List.append_nil, Rows.uptoBulkAll] at h; omega)
  obtain ⟨s1, rfl, rfl, rfl, hs1⟩ := open_string Tryd.underlying9 (hval 1 9 v1 rfl rfl) h1
  simp only [List.append_nil] at hW'
  have hr1 : s1.size ≤ 1048576 := by
    have h := of_decide_eq_true (hcond _ rfl)
    simp only [Rows.uptoBulkAll, Rows.uptoBulk, List.append_nil] at h
    have e : s1.size = s1.data.toList.length := by rw [Array.length_toList]; rfl
    omega
  rw [MakeChecks.laidMetH_plain _ _ _ (by kernel_rfl)] at hL
  have r4 := Lib.laidMet.reads hL (.head _)
  have r3 := Lib.laidMet.reads hL (.tail _ (.head _))
  rw [accept_eq] at r4
  rw [first_eq] at r3
  have hG : Gl W := ⟨utf8Tabs_of_reads Tryd.lays260 extra r3 r4, Tryd.laysM219.s1_3 W hSh⟩
  refine (datepatStretches_walk v0 L0 s1 W hv0 hL0 hr1 hG).mono fun e W' ⟨he, hb⟩ => ?_
  subst he
  refine (show ∃ v, _ = _ ∧ Rows.datepatStretchesSpec.post enc Tryd.prog Tryd.f6 false true false false W _ v W' from ?_)
  exact ⟨_, rfl, _, _, _, [], _, [], hW', trodAll_mk1 (shut_bool Tryd.underlying4 _), trodAll_mk2 (Below.trod laidOut' (by kernel_rfl) (of_decide_eq_true (by kernel_rfl)) h0 hb (fun x hx => hlt x (by simp [hx]))) (shut_string Tryd.underlying9 hs1), rfl, hb.frame _, fun h => by cases h⟩

theorem said : Rows.DatepatStretchesUptoSaid :=
  OpenClaim.holds_of_cond 6 Tryd.f6 rfl rfl rfl rfl rfl rfl rfl ⟨rfl, rfl, rfl, rfl, rfl⟩ rfl rfl rfl rfl rfl (by kernel_rfl) Tryd.func6 (by kernel_rfl)
    (of_decide_eq_true (by kernel_rfl)) (by unfold Func.isWrapper; first | (rw [if_pos (by decide +kernel)]; kernel_rfl) | (rw [if_neg (by decide +kernel)]; exact ⟨rfl, rfl⟩))
    (fun os started H enc _ F => by rw [OpenClaim.pre_eq_preRow]; exact lifted os started H enc F)

theorem plain (f : FuncId) (fn : Func) (hf : Tryd.pinned.checked.prog.funcNamed "vernacular/vernacularlaw17.DatepatStretches" = some f) (hfn : Tryd.pinned.checked.prog.funcs[f]? = some fn) :
    false = Tryd.pinned.checked.prog.looks [] ∧ ∀ (j : Nat) t, fn.params[j]? = some t → Tryd.pinned.checked.prog.wantsStandIn t = false := by
  obtain rfl : f = 6 := Option.some.inj ((show Tryd.prog.funcNamed "vernacular/vernacularlaw17.DatepatStretches" = some 6 by kernel_rfl).symm.trans hf) |>.symm
  obtain rfl : fn = Tryd.f6 := (Option.some.inj (Tryd.func6.symm.trans hfn)).symm
  refine ⟨by kernel_rfl, fun j t ht => ?_⟩
  rw [Tryd.params6] at ht
  have hm : t ∈ [23, 9] := by simpa using Array.mem_of_getElem? ht
  have hall : ([23, 9].all fun u => !Tryd.prog.wantsStandIn u) = true := by kernel_rfl
  exact (show Tryd.prog.wantsStandIn t = false by simpa using List.all_eq_true.1 hall t hm)
end DatepatStretchesFrame

theorem datepatStretchesUpto_card : Rows.DatepatStretchesUptoCardSaid :=
  Claim7.holds_tied_plain_at .later [] _ _ _ _ DatepatStretchesFrame.said (fun _ h => by cases h) (by kernel_rfl) (fun _ h => by cases h) datepatStretchesUpto_row_tie rfl ⟨rfl, rfl⟩ (by kernel_rfl) rfl DatepatStretchesFrame.plain (by kernel_rfl)
#print axioms datepatStretchesUpto_card
end Go.Proofs.YtbnhfjhhbgmhfaaDoor
