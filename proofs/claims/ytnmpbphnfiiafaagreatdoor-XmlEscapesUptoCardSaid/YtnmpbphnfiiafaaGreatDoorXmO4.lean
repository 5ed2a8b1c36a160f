/-
  A part of XML, plain: the file of XmlThere.
-/
import Derived.Test.YtnmpbphnfiiafaaGreatDoorXmO3
namespace Go.Proofs.YtnmpbphnfiiafaaGreatDoor
open Go.RowKit Go.PlainAid

theorem wd_second {s : ByteArray} {p : Nat} {a b : Int} {l : List Int} (h : bt s (p + 1) ≠ b) : wdAt s p (a :: b :: l) = false := by
  have : (bt s (p + 1) == b) = false := by simpa using h
  simp only [wdAt, this, Bool.false_and, Bool.and_false]
/-- The file that XmlThere asks about. -/
def thereF (s : ByteArray) : ByteArray := (((⟨#[60, 97, 32, 118, 61, 34]⟩ ++ escB s) ++ ⟨#[34, 62]⟩) ++ escB s) ++ ⟨#[60, 47, 97, 62]⟩
theorem there_list (s : ByteArray) : thereF s = ⟨([60, 97, 32, 118, 61, 34] ++ (s.data.toList.flatMap escC ++ ([34, 62] ++ (s.data.toList.flatMap escC ++ [60, 47, 97, 62])))).toArray⟩ := by
  apply ByteArray.ext
  apply Array.ext'
  simp [thereF, ByteArray.data_append, escB, List.append_assoc]
theorem misc_none {s : ByteArray} {p : Nat} (h : bBlank (bt s p) = false) (h2 : isCmt s p = false) : miscX s p = .ok p () := by
  unfold miscX
  obtain ⟨f, hf⟩ | hf : (∃ f, s.size + 1 - p = f + 1) ∨ s.size + 1 - p = 0 := by
    by_cases hh : s.size + 1 - p = 0
    · exact .inr hh
    · exact .inl ⟨s.size + 1 - p - 1, by omega⟩
  · rw [hf, miscF_stop (by rw [blk_same h]; omega) h2]
  · rw [hf]
    rfl
theorem there_tokens {s : ByteArray} (h : takenX s = true) (hs0 : s.size ≠ 0) (hz : s.size ≤ 4096) : ∃ z p1 p2, tokensX (thereF s) = .ok z [⟨1, ⟨#[97]⟩, [(⟨#[118]⟩, s)], ⟨#[]⟩, 0⟩, ⟨3, ⟨#[]⟩, [], s, p1⟩, ⟨2, ⟨#[97]⟩, [], ⟨#[]⟩, p2⟩] := by
  obtain ⟨L, h1, h2, h3⟩ := pieces_of (s.size + 1) 0 h (by omega) (Nat.zero_le _)
  rw [List.drop_zero] at h1 h2
  have hD : Decs L = s.data.toList := h1
  have hE : Encs L = s.data.toList.flatMap escC := h2
  have hlen : (Encs L).length = escN s.data.toList := by rw [hE]; rfl
  have hge := escN_ge s.data.toList
  have hll : s.data.toList.length = s.size := rfl
  rw [hll] at hge
  have hL0 : L ≠ [] := by
    intro e
    subst e
    have : s.data.toList = [] := hD.symm
    rw [this] at hll
    exact hs0 hll.symm
  have hLE := encs_ge h3
  obtain ⟨n, hn⟩ : ∃ n, (Encs L).length = n := ⟨_, rfl⟩
  rw [hn] at hLE hlen
  have hLp : 1 ≤ L.length := List.length_pos_iff.2 hL0
  obtain ⟨F, hF⟩ : ∃ F, thereF s = F := ⟨_, rfl⟩
  rw [hF]
  have hFl := there_list s
  rw [hF, ← hE] at hFl
  have hA : At F 0 ([60, 97, 32, 118, 61, 34] ++ (Encs L ++ ([34, 62] ++ (Encs L ++ [60, 47, 97, 62])))) := by rw [hFl]; exact At.self _
  have hsz : F.size = 12 + 2 * n := by
    rw [hFl]
    show ([60, 97, 32, 118, 61, 34] ++ (Encs L ++ ([34, 62] ++ (Encs L ++ [60, 47, 97, 62]))) : List UInt8).length = _
    simp only [List.length_append, List.length_cons, List.length_nil, hn]
    omega
  have a0 := hA.left
  have a1 : At F 6 (Encs L ++ ([34, 62] ++ (Encs L ++ [60, 47, 97, 62]))) := by have := hA.right; simpa using this
  have a2 : At F (6 + n) ([34, 62] ++ (Encs L ++ [60, 47, 97, 62])) := by have := a1.right; rw [hn] at this; exact this
  have a3 : At F (8 + n) (Encs L ++ [60, 47, 97, 62]) := by have := a2.right; rw [show 6 + n + ([34, 62] : List UInt8).length = 8 + n by simp; omega] at this; exact this
  have a4 : At F (8 + 2 * n) [60, 47, 97, 62] := by have := a3.right; rw [hn, show 8 + n + n = 8 + 2 * n by omega] at this; exact this
  have b0 : bt F 0 = 60 := (a0 0 (by simp)).2
  have b1 : bt F 1 = 97 := (a0 1 (by simp)).2
  have b2 : bt F 2 = 32 := (a0 2 (by simp)).2
  have b3 : bt F 3 = 118 := (a0 3 (by simp)).2
  have b4 : bt F 4 = 61 := (a0 4 (by simp)).2
  have b5 : bt F 5 = 34 := (a0 5 (by simp)).2
  have c0 : bt F (6 + n) = 34 := (a2 0 (by simp)).2
  have c1 : bt F (7 + n) = 62 := by have := (a2 1 (by simp)).2; rw [show 6 + n + 1 = 7 + n by omega] at this; exact this
  have d0 : bt F (8 + 2 * n) = 60 := (a4 0 (by simp)).2
  have d1 : bt F (8 + 2 * n + 1) = 47 := (a4 1 (by simp)).2
  have d2 : bt F (8 + 2 * n + 2) = 97 := (a4 2 (by simp)).2
  have d3 : bt F (8 + 2 * n + 3) = 62 := (a4 3 (by simp)).2
  -- whole runes
  have hbrk : brk F 0 = -1 := by
    have e1 := brk_ascii a0 (by decide)
    have e2 := whole_run h3 a1.left
    have e3 := brk_ascii a2.left (by decide)
    have e4 := whole_run h3 a3.left
    have e5 := brk_ascii a4 (by decide)
    rw [hn] at e2 e4
    rw [e1, show 0 + ([60, 97, 32, 118, 61, 34] : List UInt8).length = 6 by simp, e2, e3, show 6 + n + ([34, 62] : List UInt8).length = 8 + n by simp; omega, e4, show 8 + n + n = 8 + 2 * n by omega, e5, brk_end F _ (by rw [hsz]; simp; omega)]
  -- the value
  have hval : valX F 5 = .ok (7 + n) s := by
    unfold valX
    rw [if_pos (by left; exact b5), b5]
    have hv := val_run (t := F) (g := F.size + 1 - 5 - L.length) (acc := []) h3 a1.left
    rw [show F.size + 1 - 5 - L.length + L.length = F.size + 1 - 5 by omega, hn, List.nil_append, hD] at hv
    obtain ⟨g, hg⟩ : ∃ g, F.size + 1 - 5 - L.length = g + 1 := ⟨F.size - 5 - L.length, by omega⟩
    rw [hg, valF_end c0, mk_list] at hv
    have hv2 : valF F 34 (F.size + 1 - 5) (5 + 1) ⟨#[]⟩ = .ok (6 + n + 1) s := hv
    rw [hv2]
    simp only
    rw [if_neg (by omega)]
    congr 1
    omega
  have hattr : attrX F 3 [] = .ok (7 + n) (⟨#[118]⟩, s) := by
    have hnm : nameX F 3 = .ok 4 ⟨#[118]⟩ := name_at (nm := [118]) (t := F) (P := 3) (c := 118) (l := []) (fun k hk => by
      obtain rfl : k = 0 := by simp at hk; omega
      exact ⟨by omega, b3⟩) rfl (by decide) (by decide) (by decide) (by show bByte (bt F 4) = false; rw [b4]; decide)
    unfold attrX
    rw [hnm]
    simp only
    rw [if_neg (by simp), if_neg (by simp), if_pos b4, hval]
  have hbeg : begX F 0 0 = .ok (8 + n) (⟨#[97]⟩, false, [(⟨#[118]⟩, s)]) := by
    have hnm : nameX F 1 = .ok 2 ⟨#[97]⟩ := name_at (nm := [97]) (t := F) (P := 1) (c := 97) (l := []) (fun k hk => by
      obtain rfl : k = 0 := by simp at hk; omega
      exact ⟨by omega, b1⟩) rfl (by decide) (by decide) (by decide) (by show bByte (bt F 2) = false; rw [b2]; decide)
    have hk2 : blk F 2 = 3 := by rw [blk_more (by rw [b2]; decide) (by omega), blk_same (by rw [b3]; decide)]
    have hk7 : blk F (7 + n) = 7 + n := blk_same (by rw [c1]; decide)
    rw [begX_go hnm (by decide), show F.size + 1 - 2 = (F.size - 2) + 1 by omega, begF_attr hk2 (by rw [b3]; decide) (by rw [b3]; decide) (by decide), hattr]
    simp only
    rw [show F.size - 2 = (F.size - 3) + 1 by omega, begF_end hk7 c1]
    show Xr.ok (7 + n + 1) _ = _
    rw [show 7 + n + 1 = 8 + n by omega]
    rfl
  have hend : endX F (8 + 2 * n) ⟨#[97]⟩ = .ok (12 + 2 * n) ⟨#[97]⟩ := by
    have hnm : nameX F (8 + 2 * n + 2) = .ok (8 + 2 * n + 3) ⟨#[97]⟩ := name_at (nm := [97]) (t := F) (P := 8 + 2 * n + 2) (c := 97) (l := []) (fun k hk => by
      obtain rfl : k = 0 := by simp at hk; omega
      exact ⟨by omega, d2⟩) rfl (by decide) (by decide) (by decide) (by show bByte (bt F (8 + 2 * n + 3)) = false; rw [d3]; decide)
    rw [endX_go hnm rfl (blk_same (by rw [d3]; decide)), if_pos d3, show 8 + 2 * n + 3 + 1 = 12 + 2 * n by omega]
  have hhold : holdF F (F.size + 1 - (8 + n)) (8 + n) [⟨1, ⟨#[97]⟩, [(⟨#[118]⟩, s)], ⟨#[]⟩, 0⟩] [⟨#[97]⟩] ⟨#[]⟩ none = .ok (12 + 2 * n) [⟨1, ⟨#[97]⟩, [(⟨#[118]⟩, s)], ⟨#[]⟩, 0⟩, ⟨3, ⟨#[]⟩, [], s, 8 + n⟩, ⟨2, ⟨#[97]⟩, [], ⟨#[]⟩, 8 + 2 * n⟩] := by
    have hr := hold_run (t := F) (out := [⟨1, ⟨#[97]⟩, [(⟨#[118]⟩, s)], ⟨#[]⟩, 0⟩]) (pile := [⟨#[97]⟩]) (by simp) (P := 8 + n) (g := F.size + 1 - (8 + n) - L.length) (acc := []) (fr := none) h3 (by
      have : At F (8 + n) ((Encs L ++ [60]) ++ [47, 97, 62]) := by rw [List.append_assoc]; exact a3
      exact this.left) (fun k hk1 hk2 => by
        rw [hn] at hk2
        by_cases hk3 : k = 8 + 2 * n
        · rw [hk3, d0]; decide
        · have hk4 : k - (8 + n) < (Encs L).length := by rw [hn]; omega
          have hb := (a3.left (k - (8 + n)) hk4).2
          rw [show 8 + n + (k - (8 + n)) = k by omega] at hb
          intro e
          have hm : (Encs L)[k - (8 + n)] ∈ Encs L := List.getElem_mem _
          obtain ⟨x, hx, hxe⟩ := List.mem_flatten.1 hm
          obtain ⟨y, hy, rfl⟩ := List.mem_map.1 hx
          have := ((h3 y hy).2 _ hxe).2.1
          apply this
          apply UInt8.toNat_inj.1
          show _ = 62
          omega) (by rw [hn, show 8 + n + n + 1 = 8 + 2 * n + 1 by omega, d1]; decide) hL0
    rw [show F.size + 1 - (8 + n) - L.length + L.length = F.size + 1 - (8 + n) by omega, hn, List.nil_append, hD, mk_list, show 8 + n + n = 8 + 2 * n by omega] at hr
    have hr2 : holdF F (F.size + 1 - (8 + n)) (8 + n) [⟨1, ⟨#[97]⟩, [(⟨#[118]⟩, s)], ⟨#[]⟩, 0⟩] [⟨#[97]⟩] ⟨#[]⟩ none = _ := hr
    rw [hr2]
    obtain ⟨g, hg⟩ : ∃ g, F.size + 1 - (8 + n) - L.length = g + 1 + 1 := ⟨F.size + 1 - (8 + n) - L.length - 2, by omega⟩
    have hcm : isCmt F (8 + 2 * n) = false := wd_second (by rw [d1]; decide)
    have h47 : wdAt F (8 + 2 * n) [60, 47] = true := by simp [wdAt, d0, d1]
    rw [hg, holdF_end (by simp) hcm h47]
    have htl : tellX [⟨1, ⟨#[97]⟩, [(⟨#[118]⟩, s)], ⟨#[]⟩, 0⟩] s (some (8 + n)) = .ok 0 [⟨1, ⟨#[97]⟩, [(⟨#[118]⟩, s)], ⟨#[]⟩, 0⟩, ⟨3, ⟨#[]⟩, [], s, 8 + n⟩] := by
      unfold tellX
      simp only
      rw [if_neg (by omega)]
      rfl
    rw [show (none : Option Nat).getD (8 + n) = 8 + n from rfl, htl]
    simp only
    rw [show ([⟨#[97]⟩] : List ByteArray).getLastD ⟨#[]⟩ = ⟨#[97]⟩ from rfl, hend]
    simp only
    rw [show ([⟨#[97]⟩] : List ByteArray).dropLast = [] from rfl, holdF_done]
    rfl
  refine ⟨12 + 2 * n, 8 + n, 8 + 2 * n, ?_⟩
  have hdecl : declX F = .ok 0 () := by
    unfold declX
    rw [show wdAt F 0 declB = false from wd_second (by rw [b1]; decide), show wdAt F 0 declN = false from wd_second (by rw [b1]; decide), show wdAt F 0 [60, 63] = false from wd_second (by rw [b1]; decide)]
    simp
  have hm0 : miscX F 0 = .ok 0 () := misc_none (by rw [b0]; decide) (wd_second (by rw [b1]; decide))
  have hmz : miscX F (12 + 2 * n) = .ok (12 + 2 * n) () := misc_none (by rw [bt_end F (by omega)]; decide) (by
    unfold isCmt
    simp only [wdAt]
    rw [bt_end F (by omega)]
    rfl)
  unfold tokensX
  rw [if_neg (by omega), if_neg (by rw [hbrk]; decide), hdecl]
  simp only
  rw [bodyX_go hm0 b0 hbeg]
  have hh2 : holdF F (F.size + 1 - (8 + n)) (8 + n) ([] ++ begT 0 ⟨#[97]⟩ false [(⟨#[118]⟩, s)]) (if false = true then [] else [] ++ [⟨#[97]⟩]) ⟨#[]⟩ none = _ := hhold
  rw [hh2]
  simp only
  rw [hmz]
  simp only
  rw [if_pos hsz.symm]
end Go.Proofs.YtnmpbphnfiiafaaGreatDoor
