/-
  Each operation comes to what its instructions say; calls of functions by a premise. Conditions: each lemma's own premises.
-/
import Derived.Test.YtogfkdpgkloljaaDoorVsQ
set_option linter.unusedVariables false
set_option linter.unusedSimpArgs false
namespace Go.Proofs.YtogfkdpgkloljaaDoorVs
section
variable {P : Program} {w0 : World} {M : Nat → Prop} {N : Fr} {α : Al} {ν ν' : Env} {L : Lay} {a : Act} {w w' : World} {Φ : Funs} {o : Oper} {d : Nat} {E : Eff}

theorem call_eta {c : Call} {b : Callee} {xs : List Operand} {ts : List TypeId} (h1 : c.callee = b) (h2 : c.args.toList = xs) (h3 : c.argTypes.toList = ts) : c = { callee := b, args := xs.toArray, argTypes := ts.toArray } := by
  cases c
  simp only at h1 h2 h3
  subst h1 h2 h3
  simp
theorem sigTry_ok {sg : Sigs} {d : Option Nat} {f : FuncId} {args : List (Operand × TypeId)} : ∀ {l : List (Nat × Sig)}, RM.out α (sigTry P sg d f args l) E → ∃ k g, (k, g) ∈ l ∧ RM.out α (copFunc P sg d f k g args) E
  | [], h => by rw [sigTry, out_no] at h; exact h.elim
  | (k, g) :: r, h => by
    rcases out_orElse _ _ _ h with h | h
    · exact ⟨k, g, by simp, h⟩
    · obtain ⟨k', g', h1, h2⟩ := sigTry_ok h
      exact ⟨k', g', List.mem_cons_of_mem _ h1, h2⟩
theorem copCall_ok {sg : Sigs} {c : Call} (R : Rel P w0 M N α ν L a w) (hd : ∀ d, o.dst = some d → N.W d) (ho : o.op = .call c) (h : RM.out α (copCall P sg o.dst c) E) (hv : runIs Φ E.vis ν = some ν')
    (hf : ∀ f k g, c.callee = .value (.func f) → (k, g) ∈ sg f → c.args.size = c.argTypes.size → RM.out α (copFunc P sg o.dst f k g (c.args.toList.zip c.argTypes.toList)) E → OpG P o a w (Goal P w0 M N (E.ap α o.dst) ν')) :
    OpG P o a w (Goal P w0 M N (E.ap α o.dst) ν') := by
  unfold copCall at h
  split at h
  · rename_i hc
    split at h
    · rename_i x t d hx ht hd0
      rw [hd0]
      rw [call_eta hc hx ht] at ho
      exact copLen_ok R (hd d hd0) ho hd0 h hv
    · rw [out_no] at h; exact h.elim
  · rename_i hc
    split at h
    · rename_i x y t u d hx ht hd0
      rw [hd0]
      rw [call_eta hc hx ht] at ho
      exact copAppend_ok R (hd d hd0) ho hd0 h hv
    · rw [out_no] at h; exact h.elim
  · rename_i hc
    split at h
    · rename_i d hd0
      rw [hd0]
      rw [call_eta hc rfl rfl] at ho
      exact copMM_ok (mx := false) R (hd d hd0) ho hd0 h hv
    · rw [out_no] at h; exact h.elim
  · rename_i hc
    split at h
    · rename_i d hd0
      rw [hd0]
      rw [call_eta hc rfl rfl] at ho
      exact copMM_ok (mx := true) R (hd d hd0) ho hd0 h hv
    · rw [out_no] at h; exact h.elim
  · rename_i f hc
    split at h
    · rename_i hs
      obtain ⟨k, g, h1, h2⟩ := sigTry_ok h
      exact hf f k g hc h1 hs h2
    · rw [out_no] at h; exact h.elim
  · rw [out_no] at h; exact h.elim
theorem cop_ok {sg : Sigs} {k : Nat} (R : Rel P w0 M N α ν L a w) (hd : ∀ d, o.dst = some d → N.W d) (h : RM.out α (cop P sg k o) E) (hv : runIs Φ E.vis ν = some ν')
    (hf : ∀ c f k g, o.op = .call c → c.callee = .value (.func f) → (k, g) ∈ sg f → c.args.size = c.argTypes.size → RM.out α (copFunc P sg o.dst f k g (c.args.toList.zip c.argTypes.toList)) E → OpG P o a w (Goal P w0 M N (E.ap α o.dst) ν')) :
    OpG P o a w (Goal P w0 M N (E.ap α o.dst) ν') := by
  unfold cop at h
  split at h
  · rename_i x d ho hd0
    rw [hd0]; exact copMove_ok R (hd d hd0) (.inl ho) hd0 h hv
  · rename_i x d ho hd0
    rw [hd0]; exact copMove_ok R (hd d hd0) (.inr ho) hd0 h hv
  · rename_i ho hd0
    rw [hd0]; exact copPick_ok R (hd _ hd0) ho hd0 h hv
  · rename_i ho hd0
    rw [hd0]; exact copUn_ok R (hd _ hd0) ho hd0 h hv
  · rename_i ho hd0
    rw [hd0]; exact copBin_ok R (hd _ hd0) ho hd0 h hv
  · rename_i ho hd0
    rw [hd0]; exact copConv_ok R (hd _ hd0) ho hd0 h hv (fun e h1 h2 => copByt_ok R (hd _ hd0) ho hd0 h hv e h1 h2)
  · rename_i ho hd0
    rw [hd0]; exact copExtract_ok R (hd _ hd0) ho hd0 h hv
  · rename_i ho hd0
    rw [hd0]; exact copField_ok R (hd _ hd0) ho hd0 h hv
  · rename_i ho hd0
    rw [hd0]; exact copAlloc_ok R (hd _ hd0) ho hd0 h hv
  · rename_i ho hd0
    rw [hd0]; exact copBox_ok R (hd _ hd0) ho hd0 h hv
  · rename_i ho hd0
    rw [hd0]; exact copLoad_ok R (hd _ hd0) ho hd0 h hv
  · rename_i ho hd0
    rw [hd0]; exact copStore_ok R ho hd0 h hv
  · rename_i ho hd0
    rw [hd0]; exact copFieldAddr_ok R (hd _ hd0) ho hd0 h hv
  · rename_i ho hd0
    rw [hd0]; exact copIndexAddr_ok R (hd _ hd0) ho hd0 h hv
  · rename_i ho hd0
    rw [hd0]; exact copIndex_ok R (hd _ hd0) ho hd0 h hv
  · rename_i ho hd0
    rw [hd0]; exact copNilCheck_ok R (hd _ hd0) ho hd0 h hv
  · rename_i ho hd0
    rw [hd0]; exact copSlice_ok R (hd _ hd0) ho hd0 h hv
  · rename_i ho hd0
    rw [hd0]; exact copBuildSlice_ok R (hd _ hd0) ho hd0 h hv
  · rename_i ho hd0
    rw [hd0]; exact copMakeSlice_ok R (hd _ hd0) ho hd0 h hv
  · rename_i ho hd0
    rw [hd0]; exact copIface_ok R (hd _ hd0) ho hd0 h hv
  · rename_i ho hd0
    rw [hd0]; exact copBuild_ok R (hd _ hd0) ho hd0 h hv
  · rename_i c ho
    exact copCall_ok R hd ho h hv (fun f k g => hf c f k g ho)
  · rw [out_no] at h; exact h.elim
end
end Go.Proofs.YtogfkdpgkloljaaDoorVs
