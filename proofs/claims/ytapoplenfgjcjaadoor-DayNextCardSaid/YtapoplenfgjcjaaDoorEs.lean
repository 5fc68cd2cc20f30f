/- The engine, part s: loops by a family of states. Own work; no program in sight. -/
import Derived.Test.YtapoplenfgjcjaaDoorEq
namespace GoV
open Go

/-- What is forgotten at a loop's head. -/
def St.keep (ks : List Nat) (s : St) : St := { s with env := keepE ks 0 s.env }

theorem swp_fam {C : Cfg} {x : RC} {Q : Ex → St → Prop} {s : St} {α : Type} (ks : List Nat) (f : α → St) (inv : α → Prop) (μ : α → Nat) (a0 : α) (h0 : inv a0) (e0 : s.keep ks = f a0)
    (round : ∀ a, inv a → SWp C x (fun e s' => match e with | .normal => ∃ a', inv a' ∧ μ a' < μ a ∧ s'.keep ks = f a' | e => Q e s') (f a)) : SWp C (.loop x) Q s := by
  refine swp_loop (fun n t => ∃ a, inv a ∧ μ a = n ∧ t = f a) (μ a0) ⟨_, weak_keep ks, a0, h0, rfl, e0⟩ ?_
  rintro n t ⟨a, h1, rfl, rfl⟩
  refine swp_mono (round a h1) fun e s' hq => ?_
  cases e
  · obtain ⟨a', g1, g2, g3⟩ := hq
    exact ⟨s', weak_refl, _, _, weak_keep ks, g2, a', g1, rfl, g3⟩
  all_goals exact ⟨s', weak_refl, hq⟩
end GoV
