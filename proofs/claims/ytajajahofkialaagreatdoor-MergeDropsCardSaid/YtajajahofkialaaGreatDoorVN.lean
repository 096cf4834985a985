/- Drawn regions with two stores into two blocks that nobody reads there. -/
import Derived.Test.YtajajahofkialaaGreatDoorVM
namespace Go.V.L
open Go.RowKit
set_option linter.unusedVariables false
set_option linter.unusedSimpArgs false

def duo (w0 : World) (s1 s2 b1 b2 : Nat) (o1 o2 n1 n2 : Obj) : (Nat → Bool) → World → Prop := fun L w =>
  Keeps (fun q => q = b1 ∨ q = b2) w0 w ∧ w.heap[b1]? = some (bif L s1 then n1 else o1) ∧ w.heap[b2]? = some (bif L s2 then n2 else o2)
section
variable {P : Program} {ops : Array Oper} {s1 s2 b1 b2 i : Nat} {w0 : World} {o1 o2 n1 n2 : Obj} {f : Env} {o : Oper} {v : Value}
theorem duo_read (h1 : Nat.beq s1 i = false) (h2 : Nat.beq s2 i = false) (h : ∀ w, Keeps (fun q => q = b1 ∨ q = b2) w0 w → Wr P ops (fun _ _ f' w' => f' = setO f o.dst v ∧ Keeps NoB w w') [] [o] f w) : One P ops (duo w0 s1 s2 b1 b2 o1 o2 n1 n2) i f o v := by
  intro L w hL hC hd hS
  obtain ⟨hk, hb1, hb2⟩ := hS
  refine wr_post (h w hk) ?_
  rintro f' w' ⟨e, k⟩
  refine ⟨e, hk.trans k.upD, ?_, ?_⟩
  · dsimp only
    rw [h1, Bool.or_false]
    exact k.heap hb1 (fun h => h)
  · dsimp only
    rw [h2, Bool.or_false]
    exact k.heap hb2 (fun h => h)
theorem duo_st1 (hbb : b1 ≠ b2) (hs : Nat.beq s2 s1 = false) (h : ∀ w, Keeps (fun q => q = b1 ∨ q = b2) w0 w → w.heap[b1]? = some o1 → Wr P ops (fun _ _ f' w' => f' = setO f o.dst v ∧ w' = w.putObj b1 n1) [] [o] f w) : One P ops (duo w0 s1 s2 b1 b2 o1 o2 n1 n2) s1 f o v := by
  intro L w hL hC hd hS
  obtain ⟨hk, hb1, hb2⟩ := hS
  rw [hL] at hb1
  refine wr_post (h w hk hb1) ?_
  rintro f' w' ⟨e, rfl⟩
  refine ⟨e, hk.put _ (fun _ => .inl rfl), ?_, ?_⟩
  · dsimp only
    rw [Nat.beq_refl, Bool.or_true]
    exact World.putObj_heap_same (lt_of_heap hb1)
  · dsimp only
    rw [hs, Bool.or_false]
    exact Keeps.heap ((Keeps.refl (· = b1) w).put n1 (fun _ => rfl)) hb2 (fun e => hbb e.symm)
theorem duo_st2 (hbb : b1 ≠ b2) (hs : Nat.beq s1 s2 = false) (h : ∀ w, Keeps (fun q => q = b1 ∨ q = b2) w0 w → w.heap[b2]? = some o2 → Wr P ops (fun _ _ f' w' => f' = setO f o.dst v ∧ w' = w.putObj b2 n2) [] [o] f w) : One P ops (duo w0 s1 s2 b1 b2 o1 o2 n1 n2) s2 f o v := by
  intro L w hL hC hd hS
  obtain ⟨hk, hb1, hb2⟩ := hS
  rw [hL] at hb2
  refine wr_post (h w hk hb2) ?_
  rintro f' w' ⟨e, rfl⟩
  refine ⟨e, hk.put _ (fun _ => .inr rfl), ?_, ?_⟩
  · dsimp only
    rw [hs, Bool.or_false]
    exact Keeps.heap ((Keeps.refl (· = b2) w).put n2 (fun _ => rfl)) hb1 (fun e => hbb e)
  · dsimp only
    rw [Nat.beq_refl, Bool.or_true]
    exact World.putObj_heap_same (lt_of_heap hb2)
theorem duo_end {n : Nat} {w : World} (h : duo w0 s1 s2 b1 b2 o1 o2 n1 n2 (fun j => Nat.blt j n) w) (h1 : Nat.blt s1 n = true) (h2 : Nat.blt s2 n = true) : Keeps (fun q => q = b1 ∨ q = b2) w0 w ∧ w.heap[b1]? = some n1 ∧ w.heap[b2]? = some n2 := by
  obtain ⟨hk, hb1, hb2⟩ := h
  dsimp only at hb1 hb2
  rw [h1] at hb1
  rw [h2] at hb2
  exact ⟨hk, hb1, hb2⟩
end
/-- One store only. -/
def mono1 (w0 : World) (s b : Nat) (o n : Obj) : (Nat → Bool) → World → Prop := fun L w => Keeps (fun q => q = b) w0 w ∧ w.heap[b]? = some (bif L s then n else o)
section
variable {P : Program} {ops : Array Oper} {s b i : Nat} {w0 : World} {o' n : Obj} {f : Env} {o : Oper} {v : Value}
theorem mono_read (h1 : Nat.beq s i = false) (h : ∀ w, Keeps (fun q => q = b) w0 w → Wr P ops (fun _ _ f' w' => f' = setO f o.dst v ∧ Keeps NoB w w') [] [o] f w) : One P ops (mono1 w0 s b o' n) i f o v := by
  intro L w hL hC hd hS
  obtain ⟨hk, hb1⟩ := hS
  refine wr_post (h w hk) ?_
  rintro f' w' ⟨e, k⟩
  refine ⟨e, hk.trans k.upD, ?_⟩
  dsimp only
  rw [h1, Bool.or_false]
  exact k.heap hb1 (fun h => h)
theorem mono_st (h : ∀ w, Keeps (fun q => q = b) w0 w → w.heap[b]? = some o' → Wr P ops (fun _ _ f' w' => f' = setO f o.dst v ∧ w' = w.putObj b n) [] [o] f w) : One P ops (mono1 w0 s b o' n) s f o v := by
  intro L w hL hC hd hS
  obtain ⟨hk, hb1⟩ := hS
  rw [hL] at hb1
  refine wr_post (h w hk hb1) ?_
  rintro f' w' ⟨e, rfl⟩
  refine ⟨e, hk.put _ (fun _ => rfl), ?_⟩
  dsimp only
  rw [Nat.beq_refl, Bool.or_true]
  exact World.putObj_heap_same (lt_of_heap hb1)
theorem mono_end {k : Nat} {w : World} (h : mono1 w0 s b o' n (fun j => Nat.blt j k) w) (h1 : Nat.blt s k = true) : Keeps (fun q => q = b) w0 w ∧ w.heap[b]? = some n := by
  obtain ⟨hk, hb1⟩ := h
  dsimp only at hb1
  rw [h1] at hb1
  exact ⟨hk, hb1⟩
end
end Go.V.L
