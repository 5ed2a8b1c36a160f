/-
  The reference's Print.
-/
import Derived.Test.YtdipbfchlopeaaaGreatDoorXmQe
import Derived.Test.YtdipbfchlopeaaaGreatDoorXnN
namespace Go.Proofs.YtdipbfchlopeaaaGreatDoor
open Go.RowKit Go.PlainAid

/-- What the reference writes for an attribute, a token. -/
def rtA (a : At2) : List UInt8 := 32 :: (a.1.data.toList ++ ([61, 34] ++ ((escB a.2).data.toList ++ [34])))
def rtK (t : Tk) : List UInt8 := if t.kind = 1 then 60 :: (t.name.data.toList ++ (t.attrs.flatMap rtA ++ [62])) else if t.kind = 2 then [60, 47] ++ (t.name.data.toList ++ [62]) else (escB t.text).data.toList
def rtL (l : List Tk) : List UInt8 := l.flatMap rtK
def rtE (E : Int) (l : List Tk) : Int := if E = 0 then (if 262144 < (rtL l).length then 3 else 0) else E
def rtB (E : Int) (l : List Tk) : ByteArray := if rtE E l = 0 then ⟨(rtL l).toArray⟩ else ⟨#[]⟩
theorem esc_len6 (s : ByteArray) : (escB s).size ≤ 6 * s.size := by
  show (s.data.toList.flatMap escC).length ≤ 6 * s.data.toList.length
  have := (escN_ge s.data.toList).2
  unfold escN at this
  exact this
/-- A builder of the call's own. -/
structure Sb (lo wb : Nat) (text : List UInt8) (w : World) : Prop where
  ex : ∃ p v, Bld lo wb 0 80 #[p, v] v text w
  wb : wb < lo
section
variable {lo wb : Nat} {text : List UInt8} {w w' : World}
theorem Sb.on (h : Sb lo wb text w) (hB : Below w.heap.size w w') : Sb lo wb text w' := by
  obtain ⟨p, v, hb⟩ := h.ex
  exact ⟨⟨p, v, hb.on hB⟩, h.wb⟩
theorem Sb.lo' (h : Sb lo wb text w) : lo ≤ w.heap.size := by
  obtain ⟨p, v, hb⟩ := h.ex
  exact hb.lo
theorem Sb.str (h : Sb lo wb text w) (s : ByteArray) {l : List UInt8} (hl : s.data.toList = l) (hlen : text.length + s.size ≤ 140737488355328) :
    Calls Tryz.prog 39 #[.pointer (some ⟨wb, 0, none⟩), .string s] w fun e w' => e = .returned (.tuple #[.int .i64 s.size, .nilIface]) ∧ Sb lo wb (text ++ l) w' ∧ KeepW lo wb w w' := by
  subst hl
  have hwb := h.wb
  obtain ⟨p, v, hb⟩ := h.ex
  refine (bWriteString hb s hlen (by decide)).mono ?_
  rintro e w' ⟨h1, v', h2, h3, h4⟩
  refine ⟨h1, ⟨⟨.pointer (some ⟨wb, 0, none⟩), v', ⟨h2.blk, .inr rfl, rfl, h2.row, h2.ne, h2.lies, h2.lo⟩⟩, hwb⟩, ⟨⟨h3.os, h3.tape, h3.output, h3.size, fun k hk hx => h3.block k (Nat.lt_of_lt_of_le hk hb.lo) hx (fun e => by have := (hb.own_lt e).1; omega)⟩, fun k o hk hx hf => (h3.block k (lt_some hk) hx (fun e => ?_)).trans hk⟩⟩
  obtain ⟨c', hc'⟩ := hb.kind e
  rw [hk] at hc'
  injection hc' with hc'
  exact (hf _ _ _ hc').1 rfl
theorem sb_new {w : World} : Sb (w.heap.size + 1) w.heap.size [] (w.alloc (.cells #[.pointer none, .slice none 0 0] 80)) :=
  ⟨⟨.pointer none, .slice none 0 0, ⟨new_at _ _, .inl rfl, rfl, World.ownsRow_nil _ _ _ _, by simp [Value.ownBlock], by kernel_rfl, by simp⟩⟩, by omega⟩
end
end Go.Proofs.YtdipbfchlopeaaaGreatDoor
