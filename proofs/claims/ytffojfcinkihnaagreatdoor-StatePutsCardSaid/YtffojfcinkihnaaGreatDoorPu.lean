/- A state with a thing more. -/
import Derived.Test.YtffojfcinkihnaaGreatDoorIA
set_option linter.unusedVariables false
set_option linter.unusedSimpArgs false
set_option linter.unusedSectionVars false
set_option linter.deprecated false
set_option linter.unnecessarySimpa false
namespace Go.Proofs.YtffojfcinkihnaaGreatDoor.Th
open Go.RowKit Go.Lib Go.Proofs.YtffojfcinkihnaaGreatDoor.Abs Go.Proofs.YtffojfcinkihnaaGreatDoor.Lat Go.Proofs.YtffojfcinkihnaaGreatDoor.Lat.Cp Go.Proofs.YtffojfcinkihnaaGreatDoor.Gr
set_option linter.unusedVariables false
def gtAt (s : Bs) : List Th → Nat
  | [] => 0
  | x :: r => if bytesLt s x.n then 0 else gtAt s r + 1
theorem gtAt_le (s : Bs) : ∀ l : List Th, gtAt s l ≤ l.length
  | [] => Nat.le_refl _
  | x :: r => by rw [gtAt]; split <;> simp; exact gtAt_le s r
theorem gtAt_at (s : Bs) : ∀ (l : List Th) (i : Nat) (t : Th), (∀ j x, j < i → l[j]? = some x → bytesLt s x.n = false) → l[i]? = some t → bytesLt s t.n = true → gtAt s l = i
  | [], i, t, _, h, _ => by simp at h
  | x :: r, 0, t, _, h, ht => by cases h; rw [gtAt, if_pos ht]
  | x :: r, i + 1, t, h0, h, ht => by
    have := h0 0 x (Nat.succ_pos _) rfl
    rw [gtAt, if_neg (by rw [this]; simp), gtAt_at s r i t (fun j y hj hy => h0 (j + 1) y (by omega) hy) h ht]
theorem gtAt_none (s : Bs) : ∀ (l : List Th), (∀ (j : Nat) x, l[j]? = some x → bytesLt s x.n = false) → gtAt s l = l.length
  | [], _ => rfl
  | x :: r, h => by
    have := h 0 x rfl
    rw [gtAt, if_neg (by rw [this]; simp), gtAt_none s r fun j y hy => h (j + 1) y hy]; rfl
def putT (l : List Th) (t : Th) : List Th := (dropT l t.n).take (gtAt t.n (dropT l t.n)) ++ t :: (dropT l t.n).drop (gtAt t.n (dropT l t.n))
theorem TRow.base {w : World} {B B' : Nat} {v : Value} {l : List Th} (h : TRow w B v l) (hB : B' ≤ B) : TRow w B' v l := by
  obtain ⟨xs, ⟨h1, h2⟩, h3⟩ := h.ex
  refine ⟨xs, ⟨h1, ?_⟩, fun i t j a hi hj => ?_⟩
  · rcases h2 with h2 | ⟨g, cap, cur, e, h4, h5⟩
    · exact .inl h2
    · exact .inr ⟨g, cap, cur, e, Nat.le_trans hB h4, h5⟩
  · obtain ⟨u, e, hr⟩ := h3 i t j a hi hj
    exact ⟨u, e, hr.ext (ext0 (Nat.le_refl _) rfl rfl rfl fun b i hb hl => ⟨rfl, stab_Kx.2 ⟨by have := (stab_Kx.1 hb).1; omega, (stab_Kx.1 hb).2⟩⟩)⟩
theorem gtr_is (x s : Bs) : (!Op.bytesLess x s && !x == s) = bytesLt s x := by
  rw [bytesLt_eq]
  cases h1 : bytesLt x s with
  | true => rw [blt_asym _ _ h1]; rfl
  | false =>
    cases h2 : bytesLt s x with
    | true =>
      have : x ≠ s := fun e => by rw [e, blt_irr] at h2; cases h2
      simp [this]
    | false => rw [blt_total _ _ h1 h2]; simp
theorem later_any (w : World) (s x : ByteArray) (b1 b2 : Option Addr) (n1 c1 n2 c2 : Nat) (bx : Nat) (hb : w.cell? ⟨bx, 0, none⟩ = some (.string s)) :
    Calls Tryz.prog 29 #[.agg #[.string x, .slice b1 n1 c1, .slice b2 n2 c2], .pointer (some ⟨bx, 0, none⟩)] w fun e w' => e = .returned (.bool (bytesLt s.data.toList x.data.toList)) ∧ Below w.heap.size w w' := by
  have hlt := World.block_lt_of_cell? w _ hb
  have q0 : (w.alloc (.cells #[.string x, .slice b1 n1 c1, .slice b2 n2 c2] 28)).cell? ⟨w.heap.size, 0, none⟩ = some (.string x) := by rw [cell_of (heap_alloc_new w _)]; rfl
  have q1 : (w.alloc (.cells #[.string x, .slice b1 n1 c1, .slice b2 n2 c2] 28)).cell? ⟨bx, 0, none⟩ = some (.string s) := by rw [World.cell?_of_block (((Below.refl _ w).alloc (Nat.le_refl _) _).block bx hlt)]; exact hb
  go_enter Tryz.func29, Tryz.ntmps29
  go_wp2_with fail
  go_ret
  refine ⟨?_, (Below.refl _ w).alloc (Nat.le_refl _) _⟩
  rw [← gtr_is, ← Lib.toList_data, ← Lib.toList_data]; rfl
end Go.Proofs.YtffojfcinkihnaaGreatDoor.Th
