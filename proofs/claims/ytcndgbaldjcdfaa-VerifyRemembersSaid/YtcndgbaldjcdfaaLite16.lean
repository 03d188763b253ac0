/- Lite, part 16: a run that comes to an end is one of the model's. -/
import Derived.Test.YtcndgbaldjcdfaaLite15
namespace Go.Lite
open Go
set_option linter.unusedSimpArgs false
set_option linter.unusedVariables false

section
variable {P : Program}

theorem evOps_sound {ops : Array Oper} {cf : FuncId → List Value → Hp → Option (Value × Hp)} (hcf : ∀ f args H v H', cf f args H = some (v, H') → CO P f args H fun x h => x = v ∧ h = H') :
    ∀ (l : List Oper) (fr : Frame) (H : Hp) (r : Frame × Hp), evOps P ops cf l fr H = some r → TO P ops l fr H fun f h => (f, h) = r
  | [], fr, H, r, h => by simp [evOps] at h; exact TO.nil h
  | o :: rest, fr, H, r, h => by
    simp only [evOps] at h
    split at h
    · rename_i hg
      split at h
      · rename_i v H' hl
        exact TO.val hg hl (evOps_sound hcf rest _ _ r h)
      · rename_i f args H' hl
        simp only [Option.bind_eq_some_iff] at h
        obtain ⟨⟨v, H2⟩, h1, h2⟩ := h
        exact TO.call hg hl ((hcf f args H' v H2 h1).mono fun x h3 ⟨e1, e2⟩ => by subst e1; subst e2; exact evOps_sound hcf rest _ _ r h2)
      · cases h
    · rename_i hg
      exact TO.off (by simpa using hg) (evOps_sound hcf rest _ _ r h)

/-- What stands in a function's place answers as the model's call does. -/
def OverOk (P : Program) (over : FuncId → Option (List Value → Hp → Option (Value × Hp))) : Prop :=
  ∀ f g, over f = some g → ∀ args H v H', g args H = some (v, H') → CO P f args H fun x h => x = v ∧ h = H'

theorem ev_sound (hN : NoOwn P) {over : FuncId → Option (List Value → Hp → Option (Value × Hp))} (hO : OverOk P over) : ∀ k : Nat,
    (∀ c fr H r, ev P over false k c fr H = some r → TC P c fr H fun x f h => (x, f, h) = r) ∧
    (∀ b fr H r, ev P over false k (.loop b) fr H = some r → TR P k b fr H fun x f h => (x, f, h) = r)
  | 0 => ⟨fun c fr H r h => by simp [ev] at h, fun b fr H r h => by simp [ev] at h⟩
  | k + 1 => by
    obtain ⟨ih1, ih2⟩ := ev_sound hN hO k
    have hloop : ∀ b fr H r, ev P over false (k + 1) (.loop b) fr H = some r → TR P (k + 1) b fr H fun x f h => (x, f, h) = r := by
      intro b fr H r h
      simp only [ev] at h
      split at h
      · rename_i fr' H' hb
        refine TR.succ ((ih1 b fr H _ hb).mono fun x f h2 e => ?_)
        cases e
        exact ih2 b fr' H' r h
      · rename_i hne
        refine TR.succ ((ih1 b fr H r h).mono fun x f h2 e => ?_)
        subst e
        cases x with
        | normal => exact absurd h (hne f h2)
        | exit id => rfl
        | ret => rfl
    refine ⟨fun c fr H r h => ?_, hloop⟩
    cases c <;> simp only [ev] at h <;> try (cases h; done)
    case skip => simp at h; exact TC.skip h
    case label l => simp at h; exact TC.label h
    case exit id => simp at h; exact TC.exit h
    case ret => simp at h; exact TC.ret h
    case scope b => exact TC.scope (ih1 b fr H r h)
    case region id ops draw =>
      split at h
      · cases h
      · rename_i hd
        have hd : draw = false := by cases draw <;> simp at hd ⊢
        subst hd
        simp only [Option.bind_eq_some_iff] at h
        obtain ⟨⟨fr', H'⟩, h1, h2⟩ := h
        simp at h2
        refine TC.region ((evOps_sound ?_ _ _ _ _ h1).mono fun f h3 e => ?_)
        · intro f args H v H' hcf
          split at hcf
          · rename_i g hg
            exact hO f g hg args H v H' hcf
          · unfold callBy at hcf
            simp only [Option.bind_eq_some_iff] at hcf
            obtain ⟨fn, q1, c, q2, q3⟩ := hcf
            refine CF.co hN q1 (by rw [q2]; rfl) ?_
            split at q3
            · rename_i fr2 H2 q4
              simp only [Option.bind_eq_some_iff] at q3
              obtain ⟨u, q5, q6⟩ := q3
              simp at q6
              obtain ⟨rfl, rfl⟩ := q6
              exact CF.body q1 q2 ((ih1 c _ _ _ q4).mono fun x f h3 e => by cases e; exact ⟨trivial, u, q5, rfl, rfl⟩)
            · rename_i fr2 H2 q4
              simp only [Option.bind_eq_some_iff] at q3
              obtain ⟨u, q5, q6⟩ := q3
              simp at q6
              obtain ⟨rfl, rfl⟩ := q6
              exact CF.body q1 q2 ((ih1 c _ _ _ q4).mono fun x f h3 e => by cases e; exact ⟨trivial, u, q5, rfl, rfl⟩)
            · cases q3
        · cases e; exact h2
    case seq a b =>
      split at h
      · rename_i fr' H' hb
        refine TC.seq ((ih1 a fr H _ hb).mono fun x f h2 e => ?_)
        cases e
        exact ih1 b fr' H' r h
      · rename_i hne
        refine TC.seq ((ih1 a fr H r h).mono fun x f h2 e => ?_)
        subst e
        cases x with
        | normal => exact absurd h (hne f h2)
        | exit id => rfl
        | ret => rfl
    case cond x a b =>
      split at h
      · rename_i t ht
        refine TC.cond ht (fun e => ?_) (fun e => ?_)
        · subst e; simp at h; exact ih1 a fr H r h
        · subst e; simp at h; exact ih1 b fr H r h
      · cases h
    case block id b =>
      split at h
      · rename_i j fr' H' hb
        refine TC.block ((ih1 b fr H _ hb).mono fun x f h2 e => ?_)
        cases e
        simp only [blockQ]
        split at h
        · rename_i e; rw [if_pos e]; simpa using h
        · rename_i e; rw [if_neg e]; simpa using h
      · rename_i hne
        refine TC.block ((ih1 b fr H r h).mono fun x f h2 e => ?_)
        subst e
        cases x with
        | normal => rfl
        | exit j => exact absurd h (hne j f h2)
        | ret => rfl
    case loop b => exact TC.loop (hloop b fr H r (by simp only [ev]; exact h))

theorem evCall_sound (hN : NoOwn P) {over : FuncId → Option (List Value → Hp → Option (Value × Hp))} (hO : OverOk P over) {k : Nat} {f : FuncId} {args : List Value} {H H' : Hp} {v : Value}
    (h : evCall P over false k f args H = some (v, H')) : CF P f args H fun x h => x = v ∧ h = H' := by
  unfold evCall callBy at h
  simp only [Option.bind_eq_some_iff] at h
  obtain ⟨fn, q1, c, q2, q3⟩ := h
  split at q3
  · rename_i fr2 H2 q4
    simp only [Option.bind_eq_some_iff] at q3
    obtain ⟨u, q5, q6⟩ := q3
    simp at q6
    obtain ⟨rfl, rfl⟩ := q6
    exact CF.body q1 q2 (((ev_sound hN hO k).1 c _ _ _ q4).mono fun x f h3 e => by cases e; exact ⟨trivial, u, q5, rfl, rfl⟩)
  · rename_i fr2 H2 q4
    simp only [Option.bind_eq_some_iff] at q3
    obtain ⟨u, q5, q6⟩ := q3
    simp at q6
    obtain ⟨rfl, rfl⟩ := q6
    exact CF.body q1 q2 (((ev_sound hN hO k).1 c _ _ _ q4).mono fun x f h3 e => by cases e; exact ⟨trivial, u, q5, rfl, rfl⟩)
  · cases q3
end
end Go.Lite
