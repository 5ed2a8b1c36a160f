/-
  Rules for numbers: rules that are joined by or, by and. No program in sight.
-/
import Derived.Test.YtgbemhehbhlgpaaGreatDoorPlBk
namespace Go.Proofs.YtgbemhehbhlgpaaGreatDoor
open Go.PlainAid

theorem stp_or (any : List (List Rl)) (r : Rl) : stp any (orB, r) = any ++ [[r]] := by
  unfold stp putRow
  rw [if_pos rfl]
  simp
theorem stp_and (any : List (List Rl)) (row : List Rl) (r : Rl) : stp (any ++ [row]) (andB, r) = any ++ [row ++ [r]] := by
  unfold stp putRow
  rw [if_neg (show ¬ andB = orB by decide)]
  simp
theorem adds_pre {any0 : List (List Rl)} : ∀ (L : List (ByteArray × Rl)) (any : List (List Rl)) (row : List Rl), (∀ y ∈ L, isJ y.1) → adds (any0 ++ (any ++ [row])) L = any0 ++ adds (any ++ [row]) L
  | [], _, _, _ => rfl
  | (j, r) :: L, any, row, h => by
    have hL : ∀ y ∈ L, isJ y.1 := fun y hy => h y (by simp [hy])
    have hj : j = andB ∨ j = orB := h (j, r) (by simp)
    show adds (stp (any0 ++ (any ++ [row])) (j, r)) L = any0 ++ adds (stp (any ++ [row]) (j, r)) L
    rcases hj with rfl | rfl
    · have e1 : stp (any0 ++ (any ++ [row])) (andB, r) = any0 ++ (any ++ [row ++ [r]]) := by rw [← List.append_assoc, stp_and, List.append_assoc]
      rw [e1, stp_and]
      exact adds_pre L any (row ++ [r]) hL
    · have e1 : stp (any0 ++ (any ++ [row])) (orB, r) = any0 ++ ((any ++ [row]) ++ [[r]]) := by rw [stp_or, List.append_assoc]
      rw [e1, stp_or]
      exact adds_pre L (any ++ [row]) [r] hL
theorem adds_or (any : List (List Rl)) (r : Rl) (L : List (ByteArray × Rl)) (h : ∀ y ∈ L, isJ y.1) : adds any ((orB, r) :: L) = any ++ adds [] ((orB, r) :: L) := by
  show adds (stp any (orB, r)) L = any ++ adds (stp [] (orB, r)) L
  have e := adds_pre (any0 := any) L [] [r] h
  rw [stp_or any, stp_or []]
  exact e
theorem adds_and : ∀ (L : List (ByteArray × Rl)) (any : List (List Rl)) (row : List Rl), (∀ y ∈ L, y.1 = andB) → adds (any ++ [row]) L = any ++ [row ++ L.map (·.2)]
  | [], any, row, _ => by simp [adds]
  | (j, r) :: L, any, row, h => by
    have hj : j = andB := h (j, r) (by simp)
    subst hj
    show adds (stp (any ++ [row]) (andB, r)) L = _
    rw [stp_and, adds_and L any (row ++ [r]) (fun y hy => h y (by simp [hy]))]
    simp
theorem adds_app (any : List (List Rl)) (L M : List (ByteArray × Rl)) : adds any (L ++ M) = adds (adds any L) M := List.foldl_append
theorem rows_or (ds : ByteArray) (k : Nat) (A B : List (List Rl)) : rowsH ds k (A ++ B) = (rowsH ds k A || rowsH ds k B) := List.any_append
theorem rows_and (ds : ByteArray) (k : Nat) (A B : List Rl) : rowsH ds k [A ++ B] = (rowsH ds k [A] && rowsH ds k [B]) := by simp [rowsH]
/-- A text of two rules with a joint between them is read as both. -/
theorem rule_join {j t1 t2 : ByteArray} {r1 r2 : Rl} {L1 L2 : List (ByteArray × Rl)} (hj : isJ j) (n1 : 1 ≤ t1.size) (b1 : bLo (bt t1 0) = true) (n2 : 1 ≤ t2.size) (b2 : bLo (bt t2 0) = true)
    (k1 : ∀ T i F any0 t0 j0, Has T i t1 → FinR T (i + t1.size) → t1.size ≤ F → ∃ F', F ≤ F' + t1.size ∧ ruleF T F i any0 t0 j0 = goOn T F' (tkG T (i + t1.size)) (adds any0 ((j0, r1) :: L1)) (jointT t0 j0 ++ t1))
    (k2 : ∀ T i F any0 t0 j0, Has T i t2 → FinR T (i + t2.size) → t2.size ≤ F → ∃ F', F ≤ F' + t2.size ∧ ruleF T F i any0 t0 j0 = goOn T F' (tkG T (i + t2.size)) (adds any0 ((j0, r2) :: L2)) (jointT t0 j0 ++ t2)) :
    ∃ p t, ruleP (t1 ++ (⟨#[32]⟩ ++ j ++ ⟨#[32]⟩) ++ t2) = .ok p (adds (adds [] ((orB, r1) :: L1)) ((j, r2) :: L2)) t := by
  obtain ⟨T, hT⟩ : ∃ T, t1 ++ (⟨#[32]⟩ ++ j ++ ⟨#[32]⟩) ++ t2 = T := ⟨_, rfl⟩
  have hz : T.size = t1.size + (2 + j.size) + t2.size := by
    rw [← hT]
    simp only [ByteArray.size_append]
    show t1.size + (1 + j.size + 1) + t2.size = _
    omega
  have hA : Has T 0 t1 := by
    have h := Has.all T
    rw [← hT, ByteArray.append_assoc] at h
    rw [← hT, ByteArray.append_assoc]
    exact h.left
  have hB : Has T t1.size (⟨#[32]⟩ ++ j ++ ⟨#[32]⟩ ++ t2) := by
    have h := Has.all T
    rw [← hT, ByteArray.append_assoc] at h
    have h := h.right
    rw [Nat.zero_add] at h
    rw [← hT, ByteArray.append_assoc]
    exact h
  rw [hT]
  clear hT
  obtain ⟨f1, f2, f3, f4, f5⟩ := joint_at hj hB n2 b2
  obtain ⟨F1, e1, e2⟩ := k1 T 0 (T.size + 1) [] ⟨#[]⟩ orB hA (by rw [Nat.zero_add]; exact f1) (by omega)
  obtain ⟨g1, g2, g3⟩ := fin_end T
  have hq : t1.size + (2 + j.size) + t2.size = T.size := by omega
  obtain ⟨F2, e3, e4⟩ := k2 T (t1.size + (2 + j.size)) F1 (adds [] ((orB, r1) :: L1)) (jointT ⟨#[]⟩ orB ++ t1) j f5 (by rw [hq]; exact g1) (by omega)
  obtain ⟨q1, q2⟩ := first_low (x := T) (by omega) (by have h := hA.at0 (by omega); rw [h]; exact b1)
  refine ⟨T.size, jointT (jointT ⟨#[]⟩ orB ++ t1) j ++ t2, ?_⟩
  unfold ruleP
  rw [q1, if_neg q2, e2, Nat.zero_add, f2]
  have h5 : goOn T F1 (t1.size + 1) (adds [] ((orB, r1) :: L1)) (jointT ⟨#[]⟩ orB ++ t1) = ruleF T F1 (t1.size + (2 + j.size)) (adds [] ((orB, r1) :: L1)) (jointT ⟨#[]⟩ orB ++ t1) j := by
    unfold goOn
    rw [f3, if_pos (show j = andB ∨ j = orB from hj), f4]
  rw [h5, e4, hq, g2]
  unfold goOn
  rw [if_neg (fun e => e.elim (tx_none g3).1 (tx_none g3).2), if_pos g3]
def orS : ByteArray := ⟨#[32, 111, 114, 32]⟩
def andS : ByteArray := ⟨#[32, 97, 110, 100, 32]⟩
theorem rule_or {s1 s2 : ByteArray} {p1 p2 : Nat} {rows1 rows2 : List (List Rl)} {t1 t2 : ByteArray} (h1 : ruleP s1 = .ok p1 rows1 t1) (h2 : ruleP s2 = .ok p2 rows2 t2) (n1 : t1.size ≠ 0) (n2 : t2.size ≠ 0) :
    ∃ p t, ruleP (t1 ++ orS ++ t2) = .ok p (rows1 ++ rows2) t := by
  rcases rule_shape h1 with ⟨rfl, _⟩ | ⟨r1, L1, a1, a2, rfl, a4, _, _, _, k1⟩
  · exact absurd rfl n1
  rcases rule_shape h2 with ⟨rfl, _⟩ | ⟨r2, L2, c1, c2, rfl, c4, _, _, _, k2⟩
  · exact absurd rfl n2
  obtain ⟨p, t, h⟩ := rule_join (j := orB) (.inr rfl) a1 a2 c1 c2 k1 k2
  rw [adds_or _ r2 L2 c4] at h
  exact ⟨p, t, h⟩
/-- Where no ' or ' stands in them, both are one row; joined by and they are the two put together. -/
theorem rule_and {s1 s2 : ByteArray} {p1 p2 : Nat} {rows1 rows2 : List (List Rl)} {t1 t2 : ByteArray} (h1 : ruleP s1 = .ok p1 rows1 t1) (h2 : ruleP s2 = .ok p2 rows2 t2) (n1 : t1.size ≠ 0) (n2 : t2.size ≠ 0)
    (o1 : ∀ k, Has t1 k orS → ¬ k + 4 < t1.size) (o2 : ∀ k, Has t2 k orS → ¬ k + 4 < t2.size) :
    ∃ p t A B, rows1 = [A] ∧ rows2 = [B] ∧ ruleP (t1 ++ andS ++ t2) = .ok p [A ++ B] t := by
  rcases rule_shape h1 with ⟨rfl, _⟩ | ⟨r1, L1, a1, a2, rfl, a4, a5, _, _, k1⟩
  · exact absurd rfl n1
  rcases rule_shape h2 with ⟨rfl, _⟩ | ⟨r2, L2, c1, c2, rfl, c4, c5, _, _, k2⟩
  · exact absurd rfl n2
  have d1 : ∀ y ∈ L1, y.1 = andB := fun y hy => (a4 y hy).resolve_right fun e => by obtain ⟨k, g1, g2⟩ := a5 ⟨y, hy, e⟩; exact o1 k g1 g2
  have d2 : ∀ y ∈ L2, y.1 = andB := fun y hy => (c4 y hy).resolve_right fun e => by obtain ⟨k, g1, g2⟩ := c5 ⟨y, hy, e⟩; exact o2 k g1 g2
  have e1 : adds [] ((orB, r1) :: L1) = [r1 :: L1.map (·.2)] := adds_and L1 [] [r1] d1
  have e2 : adds [] ((orB, r2) :: L2) = [r2 :: L2.map (·.2)] := adds_and L2 [] [r2] d2
  obtain ⟨p, t, h⟩ := rule_join (j := andB) (.inl rfl) a1 a2 c1 c2 k1 k2
  have e3 : adds [r1 :: L1.map (·.2)] ((andB, r2) :: L2) = [(r1 :: L1.map (·.2)) ++ (r2 :: L2.map (·.2))] := by
    have e := adds_and ((andB, r2) :: L2) [] (r1 :: L1.map (·.2)) (fun y hy => by
      rcases List.mem_cons.1 hy with rfl | hy
      · rfl
      · exact d2 y hy)
    exact e
  rw [e1, e3] at h
  exact ⟨p, t, _, _, e1, e2, h⟩
end Go.Proofs.YtgbemhehbhlgpaaGreatDoor
