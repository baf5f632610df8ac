/-
  A call of a function comes to what its instructions say. Conditions: each lemma's own premises.
-/
import Derived.Test.YtogfkdpgkloljaaDoorVsY
set_option linter.unusedVariables false
set_option linter.unusedSimpArgs false
namespace Go.Proofs.YtogfkdpgkloljaaDoorVs
section
variable {P : Program} {w0 : World} {M : Nat → Prop} {N : Fr} {α : Al} {ν ν' : Env} {L : Lay} {a : Act} {w w' : World} {Φ : Funs} {o : Oper} {d : Nat} {E : Eff}
theorem zip_eval {xs : List Operand} {ts : List TypeId} (h : xs.length = ts.length) (e : Operand → Value) : (xs.zip ts).map (fun p => e p.1) = xs.map e := by
  induction xs generalizing ts with
  | nil => rfl
  | cons x xs ih =>
    cases ts with
    | nil => cases h
    | cons t ts => simp [ih (by simpa using h)]
theorem flat_ou (rs : List Res) : ((rs.map (·.outs)).flatten).map (·.1) = (rs.map Res.ou).flatten := by
  rw [List.map_flatten, List.map_map]; rfl
theorem not_mem_of {l : List Nat} {x : Nat} (h : l.contains x = false) : x ∉ l := fun hm => by
  rw [List.contains_iff_mem.2 hm] at h; cases h
theorem copFunc_ok (R : Rel P w0 M N α ν L a w) {sg : Sigs} {c : Call} {f : FuncId} {k : Nat} {g : Sig} (hd : ∀ d, o.dst = some d → N.W d) (ho : o.op = .call c) (hc : c.callee = .value (.func f)) (hs : c.args.size = c.argTypes.size)
    {GW : World → Prop} (hgw : GWOK GW w0 M) (hsim : Sim P GW f g (Φ f k)) (h : RM.out α (copFunc P sg o.dst f k g (c.args.toList.zip c.argTypes.toList)) E) (hv : runIs Φ E.vis ν = some ν') : OpG P o a w (Goal P w0 M N (E.ap α o.dst) ν') := by
  simp only [copFunc, out_bind, out_need, out_ok, Bool.and_eq_true, List.all_eq_true, Bool.not_eq_true'] at h
  obtain ⟨As, hAs, _, ⟨⟨hn1, hln⟩, hn2⟩, _, hcbks, sh, hsh, rfl⟩ := h
  generalize hpre : (if o.dst.isSome = true then [(sC (o.dst.getD 0), (List.map (fun x => x.sl) (resL (o.dst.getD 0) 0 0 g.rs)).flatten)] else []) = pre at hn2 hv
  obtain ⟨hk, has, vals, hsem, hvl, rfl⟩ := VI.inv (run_ins1 hv)
  simp only [VF.sem, Option.bind_eq_some_iff] at hsem
  obtain ⟨xss, hxss, raw, hraw, hvals⟩ := hsem
  obtain ⟨hxl, hpc⟩ := ins_pieces hxss
  obtain ⟨fz, ka, zs, AO⟩ := passArgs_ok R g.ps _ As xss hAs hk has (by simpa using hxl) (fun i hi hi' => by
    have := hpc i (by simpa using hi) hi'
    simpa using this)
  rw [zip_eval (by simpa using hs)] at AO
  have hK := nodupB_ok hn1
  obtain ⟨hF, hPA, hnd, hsz, hmn⟩ := call_pre R AO hK (fun x hx => not_mem_of (hln x hx))
  have hcalls := hsim.calls (L.frozen fz).F (fun b => b < w.heap.size ∧ b ∉ argsB w g.ps (c.args.toList.map a.eval)) w xss (c.args.toList.map a.eval) raw hF (fun b h => h.1) hPA hnd (fun b hb => ⟨hsz b hb, fun h => h.2 hb⟩) (hgw.gw w R.kp) (fun h0 => hgw.m0 (hmn 0 h0)) hraw
  intro Q
  unfold Oper.wp
  rw [run_enter ho hc hsim.en, Oper.upon_enter]
  have harr : c.args.map a.eval = (c.args.toList.map a.eval).toArray := by
    apply Array.ext'; simp
  rw [harr]
  refine Calls.mono hcalls ?_
  rintro e w' ⟨vs, F', rfl, SP⟩
  show Goal P w0 M N _ _ (a.put o.dst (tupV vs)) w'
  clear hcalls harr hPA hF hnd hsz hmn hraw hxss hpc hxl hk has hv hAs
  -- places
  have hn := nodupB_ok hn2
  obtain ⟨hml, hmg⟩ := mapM_some hvals
  have hplace : ∀ p ∈ pre ++ (List.map (fun x => x.outs) (resL (o.dst.getD 0) 0 0 g.rs ++ backL g.rs.length As)).flatten, ∃ zs, outV raw p.2 = some zs ∧ ν.upds (List.map (fun x => x.1) (pre ++ (List.map (fun x => x.outs) (resL (o.dst.getD 0) 0 0 g.rs ++ backL g.rs.length As)).flatten)) vals p.1 = zs := by
    intro p hp
    obtain ⟨i, hi, rfl⟩ := List.getElem_of_mem hp
    have h1 := hmg i (by rw [List.length_map]; exact hi) (by rw [hml, List.length_map]; exact hi)
    rw [List.getElem_map] at h1
    refine ⟨_, h1, ?_⟩
    have h2 := upds_get _ vals ν hn i (by rw [List.length_map]; exact hi) (by rw [hml, List.length_map]; exact hi)
    rw [List.getElem_map] at h2
    exact h2
  have hou : (List.map (fun x => x.outs) (resL (o.dst.getD 0) 0 0 g.rs ++ backL g.rs.length As)).flatten.map (·.1) = ((resL (o.dst.getD 0) 0 0 g.rs).map Res.ou).flatten ++ ((backL g.rs.length As).map Res.ou).flatten := by
    rw [flat_ou, List.map_append, List.flatten_append]
  have helse : ∀ x, x ∉ pre.map (·.1) → x ∉ ((resL (o.dst.getD 0) 0 0 g.rs).map Res.ou).flatten ++ ((backL g.rs.length As).map Res.ou).flatten → ν.upds (List.map (fun x => x.1) (pre ++ (List.map (fun x => x.outs) (resL (o.dst.getD 0) 0 0 g.rs ++ backL g.rs.length As)).flatten)) vals x = ν x := fun x h1 h2 => upds_else _ _ _ _ (fun hm => by
    rw [List.map_append, hou] at hm
    exact (List.mem_append.1 hm).elim h1 h2)
  generalize hν : ν.upds (List.map (fun x => x.1) (pre ++ (List.map (fun x => x.outs) (resL (o.dst.getD 0) 0 0 g.rs ++ backL g.rs.length As)).flatten)) vals = ν' at hplace helse
  have hpre3 : ∀ x, x ∈ pre.map (·.1) → x % 3 = 0 := fun x hx => by
    rw [← hpre] at hx
    split at hx
    · have : x = sC (o.dst.getD 0) := by simpa using hx
      rw [this]; simp [sC]
    · simp at hx
  have hn' := hn
  rw [List.map_append, hou] at hn'
  obtain ⟨L', R', hom, hparts⟩ := call_post (ν' := ν') (d' := o.dst.getD 0) (ks := (List.map (fun x => x.kill) As).flatten ++ (List.map (fun x => x.kill) (resL (o.dst.getD 0) 0 0 g.rs)).flatten ++ (List.map (fun x => x.kill) (backL g.rs.length As)).flatten) R AO hK SP rfl (List.append_assoc _ _ _) rfl (fun p hp => not_mem_of (hcbks p hp)) (List.nodup_append.1 hn').2.1
    (fun p hp => hplace p (List.mem_append_right _ (by rw [List.map_append, List.flatten_append]; exact hp))) (fun x hx3 hx => helse x (fun hm => hx3 (hpre3 x hm)) hx)
  have hE : (Eff.mk [] ((List.map (fun x => x.kill) As).flatten ++ (List.map (fun x => x.kill) (resL (o.dst.getD 0) 0 0 g.rs)).flatten ++ (List.map (fun x => x.kill) (backL g.rs.length As)).flatten) [] ((List.map (fun x => x.setb) (resL (o.dst.getD 0) 0 0 g.rs ++ backL g.rs.length As)).flatten) sh).ap α none = (α.sk [] ((List.map (fun x => x.kill) As).flatten ++ (List.map (fun x => x.kill) (resL (o.dst.getD 0) 0 0 g.rs)).flatten ++ (List.map (fun x => x.kill) (backL g.rs.length As)).flatten)).setBs (((resL (o.dst.getD 0) 0 0 g.rs).map (·.setb)).flatten ++ ((backL g.rs.length As).map (·.setb)).flatten) := by
    simp only [Eff.ap, ap_sk, List.map_append, List.flatten_append]
  cases hdst : o.dst with
  | none =>
    simp only [hdst, Option.getD_none] at *
    refine ⟨L', ?_⟩
    have e : (fun c => if c % 3 = 0 then ν c else ν' c) = ν' := by
      funext x
      by_cases hx : x % 3 = 0
      · rw [if_pos hx, helse x (by rw [← hpre]; simp) (fun hm => hom x hm hx)]
      · rw [if_neg hx]
    rw [e] at R'
    exact hE ▸ R'
  | some d =>
    simp only [hdst, Option.getD_some] at *
    obtain ⟨zs', hz1, hz2⟩ := hplace (sC d, (List.map (fun x => x.sl) (resL d 0 0 g.rs)).flatten) (List.mem_append_left _ (by rw [← hpre]; simp))
    have H := parts_shape hsh (hparts zs' hz1)
    have R2 := R'.put (hd d rfl) H
    have e : Env.upd (fun c => if c % 3 = 0 then ν c else ν' c) (sC d) zs' = ν' := by
      funext x
      by_cases hxd : x = sC d
      · subst hxd; rw [upd_same, ← hz2]
      · rw [upd_ne hxd]
        by_cases hx : x % 3 = 0
        · simp only [if_pos hx]
          rw [helse x (by rw [← hpre]; simpa using hxd) (fun hm => hom x hm hx)]
        · simp only [if_neg hx]
    rw [e] at R2
    refine ⟨L', ?_⟩
    rw [← hE] at R2
    exact R2
end
end Go.Proofs.YtogfkdpgkloljaaDoorVs
