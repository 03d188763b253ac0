/- Lite, part 6: the model does what the abstract operation says: operators, conversions, interfaces. -/
import Derived.Test.YtcndgbaldjcdfaaLite5
import Derived.Laws.Strings
import Derived.Lib.Strings
namespace Go.Lite
open Go
set_option linter.unusedSimpArgs false
set_option linter.unusedVariables false

section
variable {P : Program} {E : Env} {μ : List Info} {H : Hp} {w : World}

theorem toList_eq (x : ByteArray) : x.toList = x.data.toList := ByteArray.toList_eq x
theorem append_eq (x y : ByteArray) : x ++ y = ⟨(x.data.toList ++ y.data.toList).toArray⟩ := by
  apply ByteArray.ext
  simp
theorem extract_eq (x : ByteArray) (l h : Nat) : x.extract l h = ⟨((x.data.toList.drop l).take (h - l)).toArray⟩ := by
  apply ByteArray.ext
  apply Array.ext'
  rw [Lib.extract_data]

theorem run_lint {op : BinOp} {k : IntKind} {p q : Int} {u : Value} {t : TypeId} (hs : op ≠ .shl) (hs' : op ≠ .shr) (h : lint op k p q = some u) : (binOp op t (.int k p) (.int k q)).run P w = .ok u w ∧ scal u = true := by
  cases op <;> simp [lint] at h <;> first
    | exact absurd rfl hs
    | exact absurd rfl hs'
    | (subst h; exact ⟨by simp [binOp, Op.intArith, Op.intBits, Op.intCmp], rfl⟩)
    | (obtain ⟨h0, rfl⟩ := h; exact ⟨by simp [binOp, Op.intDiv, h0], rfl⟩)

theorem run_lstr {op : BinOp} {p q : ByteArray} {u : Value} {t : TypeId} (h : lstr op p q = some u) : (binOp op t (.string p) (.string q)).run P w = .ok u w ∧ scal u = true := by
  cases op <;> simp [lstr] at h <;> first
    | (subst h; exact ⟨by simp [binOp, Op.stringOp, toList_eq], rfl⟩)
    | (obtain ⟨h0, rfl⟩ := h
       refine ⟨?_, rfl⟩
       simp only [binOp, Op.stringOp]
       rw [if_neg (by simp [IntKind.max_i64]; omega), append_eq]
       rfl)

theorem equal_step {t : TypeId} {x y : Value} {r : Bool} (h : ∀ d : Nat, (Op.equalIn (d + 1) t x y).run P w = .ok r w) : (Op.equal t x y).run P w = .ok r w := h 9999

theorem u_bool {t : TypeId} (h : isBoolT P t = true) : P.underlying t = some .bool := by
  unfold isBoolT at h; split at h
  · assumption
  · cases h
theorem u_ptr {t : TypeId} (h : isPtrT P t = true) : ∃ e, P.underlying t = some (.pointer e) := by
  unfold isPtrT at h; split at h
  · exact ⟨_, by assumption⟩
  · cases h
theorem u_slice {t : TypeId} (h : isSliceT P t = true) : ∃ e, P.underlying t = some (.slice e) := by
  unfold isSliceT at h; split at h
  · exact ⟨_, by assumption⟩
  · cases h
theorem u_map {t : TypeId} (h : isMapT P t = true) : ∃ k e, P.underlying t = some (.map k e) := by
  unfold isMapT at h; split at h
  · exact ⟨_, _, by assumption⟩
  · cases h
theorem u_func {t : TypeId} (h : isFuncT P t = true) : ∃ a b c, P.underlying t = some (.func a b c) := by
  unfold isFuncT at h; split at h
  · exact ⟨_, _, _, by assumption⟩
  · cases h
theorem u_iface {t : TypeId} (h : isIfaceT P t = true) : ∃ a, P.underlying t = some (.interface a) := by
  unfold isIfaceT at h; split at h
  · exact ⟨_, by assumption⟩
  · cases h
theorem u_u8 {t : TypeId} (h : isU8T P t = true) : P.underlying t = some (.int .u8) := by
  unfold isU8T at h; split at h
  · assumption
  · cases h
theorem eq_both {t : TypeId} {x y : Operand} {a b : Value} {r : Bool} (hq : ∀ d : Nat, (Op.equalIn (d + 1) t a b).run P w = .ok r w) (h1 : eqGuard .eql t x y a b = pure ()) (h2 : eqGuard .neq t x y a b = pure ())
    (h3 : binOp .eql t a b = (do pure (.bool (← Op.equal t a b)))) (h4 : binOp .neq t a b = (do pure (.bool (!(← Op.equal t a b))))) :
    (do eqGuard .eql t x y a b; binOp .eql t a b).run P w = .ok (.bool r) w ∧ (do eqGuard .neq t x y a b; binOp .neq t a b).run P w = .ok (.bool (!r)) w := by
  have hE := equal_step (P := P) hq
  refine ⟨?_, ?_⟩
  · rw [h1, h3]; simp only [Sem.run_bind, Sem.run_pure, Result.andThen_ok, hE]
  · rw [h2, h4]; simp only [Sem.run_bind, Sem.run_pure, Result.andThen_ok, hE]

theorem run_leq {t : TypeId} {x y : Operand} {a b a' b' : Value} {r : Bool} (h : leq P t x y a b = some r) (ha : VR μ a a') (hb : VR μ b b') :
    (do eqGuard .eql t x y a' b'; binOp .eql t a' b').run P w = .ok (.bool r) w ∧ (do eqGuard .neq t x y a' b'; binOp .neq t a' b').run P w = .ok (.bool (!r)) w := by
  unfold leq at h
  split at h
  case h_1 =>
    split at h
    · rename_i hu; have hu := u_bool hu; cases h; cases ha; cases hb
      exact eq_both (fun d => by simp [Op.equalIn, run_underlying hu]) rfl rfl rfl rfl
    · cases h
  case h_2 =>
    split at h
    · rename_i hu; obtain ⟨e, hu⟩ := u_ptr hu; cases h; cases ha; cases hb <;>
      exact eq_both (fun d => by simp [Op.equalIn, run_underlying hu]) rfl rfl rfl rfl
    · cases h
  case h_3 =>
    split at h
    · rename_i hu; obtain ⟨e, hu⟩ := u_ptr hu; cases h; cases ha; cases hb
      exact eq_both (fun d => by simp [Op.equalIn, run_underlying hu]) rfl rfl rfl rfl
    · cases h
  case h_4 =>
    split at h
    · rename_i hu; obtain ⟨e, hu⟩ := u_slice hu; cases h; cases ha; cases hb <;>
      exact eq_both (fun d => by simp [Op.equalIn, run_underlying hu]) rfl rfl rfl rfl
    · cases h
  case h_5 =>
    split at h
    · rename_i hu; obtain ⟨e, hu⟩ := u_slice hu; cases h; cases ha; cases hb
      exact eq_both (fun d => by simp [Op.equalIn, run_underlying hu]) rfl rfl rfl rfl
    · cases h
  case h_6 =>
    split at h
    · rename_i hu; obtain ⟨k, e, hu⟩ := u_map hu; cases h; cases ha; cases hb <;>
      exact eq_both (fun d => by simp [Op.equalIn, run_underlying hu]) rfl rfl rfl rfl
    · cases h
  case h_7 =>
    split at h
    · rename_i hu; obtain ⟨k, e, hu⟩ := u_map hu; cases h; cases ha; cases hb
      exact eq_both (fun d => by simp [Op.equalIn, run_underlying hu]) rfl rfl rfl rfl
    · cases h
  case h_8 =>
    split at h
    · rename_i hu; obtain ⟨k, e, f, hu⟩ := u_func hu; cases h; cases ha; cases hb
      exact eq_both (fun d => by simp [Op.equalIn, run_underlying hu]) rfl rfl rfl rfl
    · cases h
  case h_9 =>
    split at h
    · rename_i hu; obtain ⟨k, e, f, hu⟩ := u_func hu; cases h; cases ha; cases hb
      exact eq_both (fun d => by simp [Op.equalIn, run_underlying hu]) rfl rfl rfl rfl
    · cases h
  case h_10 =>
    split at h
    · rename_i hu; obtain ⟨k, e, f, hu⟩ := u_func hu; cases h; cases ha; cases hb
      exact eq_both (fun d => by simp [Op.equalIn, run_underlying hu]) rfl rfl rfl rfl
    · cases h
  case h_11 =>
    split at h
    · rename_i hu
      rw [Bool.and_eq_true] at hu
      obtain ⟨hu, hc⟩ := hu
      obtain ⟨k, hu⟩ := u_iface hu; cases h; cases ha; cases hb
      have hg : ∀ op, eqGuard op t x y .nilIface .nilIface = pure () := fun op => by
        rw [Bool.or_eq_true] at hc
        rcases hc with hc | hc
        · cases x <;> simp [constNil] at hc
          cases op <;> rfl
        · cases y <;> simp [constNil] at hc
          cases op <;> cases x <;> rfl
      exact eq_both (fun d => by simp [Op.equalIn, run_underlying hu]) (hg _) (hg _) rfl rfl
    · cases h
  case h_12 =>
    split at h
    · rename_i hu; obtain ⟨k, hu⟩ := u_iface hu; cases h; cases ha; cases hb
      exact eq_both (fun d => by simp [Op.equalIn, run_underlying hu]) rfl rfl rfl rfl
    · cases h
  case h_13 =>
    split at h
    · rename_i hu; obtain ⟨k, hu⟩ := u_iface hu; cases h; cases ha; cases hb
      exact eq_both (fun d => by simp [Op.equalIn, run_underlying hu]) rfl rfl rfl rfl
    · cases h
  case h_14 => cases h

theorem lbin_sound {op : BinOp} {t : TypeId} {x y : Operand} {a b a' b' u : Value} (h : lbin P op t x y a b = some u) (ha : VR μ a a') (hb : VR μ b b') :
    (do eqGuard op t x y a' b'; binOp op t a' b').run P w = .ok u w ∧ scal u = true := by
  unfold lbin at h
  split at h
  case h_1 k n yk m =>
    cases ha; cases hb
    split at h
    · cases h
    · rename_i hm
      cases h
      exact ⟨by simp [eqGuard, binOp, Op.shift, hm], rfl⟩
  case h_2 k n yk m =>
    cases ha; cases hb
    split at h
    · cases h
    · rename_i hm
      cases h
      exact ⟨by simp [eqGuard, binOp, Op.shift, hm], rfl⟩
  case h_3 op' k n k' m h1 h2 =>
    cases ha; cases hb
    split at h
    · rename_i e; subst e
      have hs : op ≠ .shl := fun e => by first | exact h1 e | exact h1 _ e | exact h1 e _ rfl | simp_all
      have hs' : op ≠ .shr := fun e => by first | exact h2 e | exact h2 _ e | exact h2 e _ rfl | simp_all
      obtain ⟨h3, h4⟩ := run_lint (P := P) (w := w) (t := t) hs hs' h
      refine ⟨?_, h4⟩
      have hg : eqGuard op t x y (.int k n) (.int k m) = pure () := by cases op <;> rfl
      rw [hg]; simp only [Sem.run_bind, Sem.run_pure, Result.andThen_ok, h3]
    · cases h
  case h_4 op' p q =>
    cases ha; cases hb
    obtain ⟨h3, h4⟩ := run_lstr (P := P) (w := w) (t := t) h
    refine ⟨?_, h4⟩
    have hg : eqGuard op t x y (.string p) (.string q) = pure () := by cases op <;> rfl
    rw [hg]; simp only [Sem.run_bind, Sem.run_pure, Result.andThen_ok, h3]
  case h_5 =>
    simp only [Option.bind_eq_some_iff] at h
    obtain ⟨r, h1, h2⟩ := h
    cases h2
    exact ⟨(run_leq h1 ha hb).1, rfl⟩
  case h_6 =>
    simp only [Option.bind_eq_some_iff] at h
    obtain ⟨r, h1, h2⟩ := h
    cases h2
    exact ⟨(run_leq h1 ha hb).2, rfl⟩
  case h_7 => cases h

theorem lun_sound {op : UnOp} {a a' u : Value} (h : lun op a = some u) (ha : VR μ a a') : (Op.unary op a').run P w = .ok u w ∧ scal u = true := by
  unfold lun at h
  split at h
  · cases ha; cases h; exact ⟨by simp [Op.unary, Op.intArith], rfl⟩
  · cases ha; cases h; exact ⟨by simp [Op.unary, Op.intBits], rfl⟩
  · cases ha; cases h; exact ⟨by simp [Op.unary], rfl⟩
  · cases h
end
end Go.Lite
