/- The engine, part s: loops by a family of states. Own work; no program in sight. -/
import Derived.Test.YtiodnobmnfjdlaaDoorEq
namespace GoV
open Go

/-- What is forgotten at a loop's head: slots that are not kept, later blocks and growing slices. -/
def St.keep (ks : List Nat) (s : St) : St := { s with env := keepE ks 0 s.env }

theorem swp_fam {C : Cfg} {x : RC} {Q : Ex → St → Prop} {s : St} {α : Type} (ks : List Nat) (f : α → St) (inv : α → Prop) (μ : α → Nat) (a0 : α) (h0 : inv a0) (e0 : s.keep ks = f a0)
    (round : ∀ a, inv a → SWp C x (fun e s' => match e with | .normal => ∃ a', inv a' ∧ μ a' < μ a ∧ s'.keep ks = f a' | e => Q e s') (f a)) : SWp C (.loop x) Q s := by
  refine swp_loop (fun n t => ∃ a, inv a ∧ μ a = n ∧ t = f a) (μ a0) ⟨_, weak_keep ks, a0, h0, rfl, e0⟩ ?_
  rintro n t ⟨a, h1, rfl, rfl⟩
  refine swp_mono (round a h1) fun e s' hq => ?_
  cases e
  · obtain ⟨a', g1, g2, g3⟩ := hq
    exact ⟨s', weak_refl, _, _, weak_keep ks, g2, a', g1, rfl, g3⟩
  all_goals exact ⟨s', weak_refl, hq⟩

/-- The same, where rounds leave new blocks and growing slices behind, from places n and m on. -/
def St.keepG (ks : List Nat) (n m : Nat) (s : St) : St := (s.keep ks).gc n m

theorem swp_famG {C : Cfg} {x : RC} {Q : Ex → St → Prop} {s : St} {α : Type} (ks : List Nat) (n m : Nat) (hn : C.n0 ≤ n) (hm : C.m0 ≤ m) (f : α → St) (inv : α → Prop) (μ : α → Nat) (a0 : α) (h0 : inv a0) (e0 : s.keepG ks n m = f a0)
    (round : ∀ a, inv a → SWp C x (fun e s' => match e with | .normal => ∃ a', inv a' ∧ μ a' < μ a ∧ s'.keepG ks n m = f a' | e => Q e s') (f a)) : SWp C (.loop x) Q s := by
  have hw : ∀ s : St, Weak C s (s.keepG ks n m) := fun s => weak_trans (weak_keep ks) (weak_gc n m hn hm)
  refine swp_loop (fun n t => ∃ a, inv a ∧ μ a = n ∧ t = f a) (μ a0) ⟨_, hw s, a0, h0, rfl, e0⟩ ?_
  rintro k t ⟨a, h1, rfl, rfl⟩
  refine swp_mono (round a h1) fun e s' hq => ?_
  cases e
  · obtain ⟨a', g1, g2, g3⟩ := hq
    exact ⟨s', weak_refl, _, _, hw s', g2, a', g1, rfl, g3⟩
  all_goals exact ⟨s', weak_refl, hq⟩
/-- What the other kinds of integers hold. -/
theorem w32 {n : Int} (h1 : -2147483648 ≤ n) (h2 : n ≤ 2147483647) : IntKind.i32.wrap n = n := by rw [IntKind.wrap_i32]; omega
theorem wu8 {n : Int} (h1 : 0 ≤ n) (h2 : n ≤ 255) : IntKind.u8.wrap n = n := by rw [IntKind.wrap_u8]; omega
theorem wu16 {n : Int} (h1 : 0 ≤ n) (h2 : n ≤ 65535) : IntKind.u16.wrap n = n := by
  have : IntKind.u16.wrap n = n % 65536 := by simp [IntKind.wrap, IntKind.bits, IntKind.signed]
  rw [this]; omega
theorem wu32 {n : Int} (h1 : 0 ≤ n) (h2 : n ≤ 4294967295) : IntKind.u32.wrap n = n := by rw [IntKind.wrap_u32]; omega
theorem wu64 {n : Int} (h1 : 0 ≤ n) (h2 : n ≤ 18446744073709551615) : IntKind.u64.wrap n = n := by
  have : IntKind.u64.wrap n = n % 18446744073709551616 := by simp [IntKind.wrap, IntKind.bits, IntKind.signed]
  rw [this]; omega
end GoV
