/- Lite, part 23: a row's step: from what came in to what the walk asks. -/
import Derived.Test.YtcndgbaldjcdfaaLite22
import Derived.HandedShaped
import Derived.WalkKit
import Derived.ProofKit
import Derived.OpenShut
import Derived.ShutString
import Derived.ChangeOld
namespace Go.Lite
open Go Go.ChangeShapes Go.WideShapes Go.Deep
set_option linter.unusedSimpArgs false
set_option linter.unusedVariables false

section
variable {H : Type} {enc : TypeId × Value → H} {P : Program} {W : World}

/-- A type whose value is one cell of its own. -/
def leafB (P : Program) (t : TypeId) : Bool := match P.underlying t with
  | some .string | some (.int _) | some .bool | some (.slice _) => true
  | _ => false
/-- A struct, or an array. -/
def aggB (P : Program) (t : TypeId) : Bool := match P.underlying t with
  | some (.struct _) | some (.array _ _) => true
  | _ => false

/-- Arguments read in: their abstract values. -/
inductive ArgsIn (P : Program) (Hh : Hp) : List TypeId → List Value → Prop
  | nil : ArgsIn P Hh [] []
  | one {t : TypeId} {ts : List TypeId} {v : Value} {vs : List Value} : Sh P Hh t v → ArgsIn P Hh ts vs → ArgsIn P Hh (t :: ts) (v :: vs)
  | agg {t : TypeId} {ts ls : List TypeId} {cs vs : List Value} {k : Nat} : aggB P t = true → leafs P k t = some ls → cs.length = ls.length → (∀ (j : Nat) u v, ls[j]? = some u → cs[j]? = some v → Sh P Hh u v) → ArgsIn P Hh ts vs → ArgsIn P Hh (t :: ts) (.agg cs.toArray :: vs)

theorem ArgsIn.mono {A B : Hp} (h : A.le B) : ∀ {ts : List TypeId} {vs : List Value}, ArgsIn P A ts vs → ArgsIn P B ts vs
  | _, _, .nil => .nil
  | _, _, .one a b => .one (a.mono h) (ArgsIn.mono h b)
  | _, _, .agg z a b c d => .agg z a b (fun j u v hu hv => (c j u v hu hv).mono h) (ArgsIn.mono h d)

theorem leafs_leaf {k : Nat} {t : TypeId} {l : List TypeId} (hb : leafB P t = true) (h : leafs P k t = some l) : l = [t] := by
  cases k with
  | zero => cases h
  | succ k =>
    unfold leafs at h
    unfold leafB at hb
    split at h
    · simpa using h.symm
    · simpa using h.symm
    · simpa using h.symm
    · simp only [Option.bind_eq_some_iff] at h
      obtain ⟨a, _, h2⟩ := h
      split at h2
      · simpa using h2.symm
      · cases h2
    · rename_i hu; rw [hu] at hb; cases hb
    · rename_i hu; rw [hu] at hb; cases hb
    · cases h

theorem argsIn (hC : HasCells W) : ∀ {ts : List TypeId} {args : List Value} {ds : List (DataW H)} {ps : List MemPlace},
    (∀ t ∈ ts, (∃ k l, leafs P k t = some l) ∧ (leafB P t = true ∨ aggB P t = true)) → (∀ (j : Nat) t v, ts[j]? = some t → args[j]? = some v → Value.okWide P W .any 0 t v ∨ ∃ b, Value.okWide P W .any b t v) →
    DataW.TrodAll enc P W 0 (fun _ => true) true ts args ds ps → ∀ μ Hh, Rel P (envOf W) μ Hh W → ∃ μ' H' vs, Ext μ μ' ∧ Rel P (envOf W) μ' H' W ∧ Hh.le H' ∧ LR μ' vs args ∧ ArgsIn P H' ts vs
  | [], [], [], ps, _, _, h, μ, Hh, hR => ⟨μ, Hh, [], Ext.refl μ, hR, Hp.le.refl Hh, LR.nil μ, .nil⟩
  | [], [], _ :: _, ps, _, _, h, μ, Hh, hR => by simp [DataW.TrodAll] at h
  | [], _ :: _, _, ps, _, _, h, μ, Hh, hR => by simp [DataW.TrodAll] at h
  | _ :: _, [], _, ps, _, _, h, μ, Hh, hR => by simp [DataW.TrodAll] at h
  | _ :: _, _ :: _, [], ps, _, _, h, μ, Hh, hR => by simp [DataW.TrodAll] at h
  | t :: ts, v :: args, d :: ds, ps, ht, hw, h, μ, Hh, hR => by
    obtain ⟨p, q, h1, h2, rfl⟩ := h
    obtain ⟨⟨k, l, hl⟩, hk⟩ := ht t (by simp)
    obtain ⟨μ1, H1, cs, e1, r1, l1, lr1, s1⟩ := readIn_arg hC hl h1 μ Hh hR
    obtain ⟨μ2, H2, vs, e2, r2, l2, lr2, s2⟩ := argsIn hC (fun t h => ht t (by simp [h])) (fun j t v a b => hw (j + 1) t v (by simpa using a) (by simpa using b)) h2 μ1 H1 r1
    have hok : ∃ b, Value.okWide P W .any b t v := by
      rcases hw 0 t v rfl rfl with h | h
      · exact ⟨_, h⟩
      · exact h
    obtain ⟨b, hok⟩ := hok
    rcases hk with hk | hk
    · have := leafs_leaf hk hl
      subst this
      have hc : cellsOf v = [v] := by
        unfold leafB at hk
        unfold Value.okWide at hok
        split at hk <;> rename_i hu <;> simp only [hu, Cell.okWide] at hok <;> (try (cases hk; done)) <;> cases v <;> simp_all [Cell.ok, cellsOf]
      rw [hc] at lr1
      have hlen : cs.length = 1 := lr1.1
      match cs, hlen with
      | [c], _ =>
        refine ⟨μ2, H2, c :: vs, e1.trans e2, r2, l1.trans l2, LR.append (LR.mono e2 lr1) lr2, .one ((s1 0 t c rfl rfl).mono l2) s2⟩
    · have hc : ∃ a : Array Value, v = .agg a := by
        unfold aggB at hk
        unfold Value.okWide at hok
        split at hk
        · rename_i hu; simp only [hu] at hok; obtain ⟨cs, rfl, _⟩ := hok; exact ⟨_, rfl⟩
        · rename_i hu; simp only [hu] at hok; obtain ⟨cs, rfl, _⟩ := hok; exact ⟨_, rfl⟩
        · cases hk
      obtain ⟨a, rfl⟩ := hc
      refine ⟨μ2, H2, .agg cs.toArray :: vs, e1.trans e2, r2, l1.trans l2, LR.cons ?_ lr2, .agg hk hl ?_ (fun j u v hu hv => (s1 j u v hu hv).mono l2) s2⟩
      · have := VR.mk_agg (LR.mono e2 lr1)
        simpa [cellsOf] using this
      · obtain ⟨f, hf⟩ := h1
        have h3 := cellsRead_of_trod k t l _ _ _ hl hf
        rw [lr1.1, ← h3.1, cellsOf_eq]

theorem Sh.inv_str {Hh : Hp} {t : TypeId} {v : Value} (hu : P.underlying t = some .string) (h : Sh P Hh t v) : ∃ l : List UInt8, v = S l ∧ l.length ≤ maxLen := by
  cases h with
  | str s a b => exact ⟨s.data.toList, S_eq s, b⟩
  | int n a => rw [hu] at a; cases a
  | bool b a => rw [hu] at a; cases a
  | nil a => rw [hu] at a; cases a
  | row a => rw [hu] at a; cases a
theorem Sh.inv_int {Hh : Hp} {t : TypeId} {v : Value} {k : IntKind} (hu : P.underlying t = some (.int k)) (h : Sh P Hh t v) : ∃ n : Int, v = .int k n ∧ (Lit.int k n).wf = true := by
  cases h with
  | str s a => rw [hu] at a; cases a
  | int n a b => rw [hu] at a; cases a; exact ⟨n, rfl, b⟩
  | bool b a => rw [hu] at a; cases a
  | nil a => rw [hu] at a; cases a
  | row a => rw [hu] at a; cases a
theorem Sh.inv_bool {Hh : Hp} {t : TypeId} {v : Value} (hu : P.underlying t = some .bool) (h : Sh P Hh t v) : ∃ b : Bool, v = .bool b := by
  cases h with
  | str s a => rw [hu] at a; cases a
  | int n a => rw [hu] at a; cases a
  | bool b a => exact ⟨b, rfl⟩
  | nil a => rw [hu] at a; cases a
  | row a => rw [hu] at a; cases a
theorem Sh.inv_slice {Hh : Hp} {t e : TypeId} {v : Value} {k : Nat} {ls : List TypeId} (hu : P.underlying t = some (.slice e)) (hl : leafs P k e = some ls) (h : Sh P Hh t v) :
    v = .slice none 0 0 ∨ ∃ (b n c : Nat) (vs : List Value), v = .slice (some ⟨b, 0, none⟩) n c ∧ n ≤ maxLen ∧ vs.length = n * ls.length ∧ Hh.f b = some (.cells false ls.length vs) ∧
      ∀ (i j : Nat) (u : TypeId) (v : Value), i < n → ls[j]? = some u → vs[i * ls.length + j]? = some v → Sh P Hh u v := by
  cases h with
  | str s a => rw [hu] at a; cases a
  | int n a => rw [hu] at a; cases a
  | bool b a => rw [hu] at a; cases a
  | nil a => exact .inl rfl
  | row a b c d e f g =>
    rw [hu] at a
    cases a
    cases leafs_unique hl b
    exact .inr ⟨_, _, _, _, rfl, d, e, f, g⟩
theorem int_wf {k : IntKind} {n lo hi : Int} (h : (Lit.int k n).wf = true) (hr : rangeK k = (lo, hi)) : lo ≤ n ∧ n ≤ hi := by
  cases k <;> simp only [rangeK, Prod.mk.injEq] at hr <;> obtain ⟨rfl, rfl⟩ := hr <;> simp [Lit.wf, IntKind.min, IntKind.max, IntKind.bits, IntKind.signed] at h <;> omega
end
end Go.Lite
