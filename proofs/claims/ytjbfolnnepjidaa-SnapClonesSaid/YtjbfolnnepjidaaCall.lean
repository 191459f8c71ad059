/-
  Calls, the way into a function and out of it, cuts, and regions that draw their order, for the generated walks of this claim.
-/
import Derived.Test.YtjbfolnnepjidaaApp
set_option linter.unusedVariables false
set_option linter.unusedSimpArgs false
namespace Go.Proofs.Ytjbfolnnepjidaa.Tw
open Go

/-! ### Calls -/
structure CallOk (P : Program) (f : FuncId) : Prop where out : ∃ fn, P.funcs[f]? = some fn ∧ fn.body.isNone = false ∧ (fn.name == "runtime.NumGoroutine") = false
def Evs (l : Slots) : List Operand → List Value → Prop
  | [], [] => True
  | x :: xs, v :: vs => ev l x = some v ∧ Evs l xs vs
  | _, _ => False
theorem Evs.map {l : Slots} {ρ : Operand → Value} (ha : Ag l ρ) : ∀ {xs : List Operand} {vs : List Value}, Evs l xs vs → xs.map ρ = vs
  | [], [], _ => rfl
  | x :: xs, v :: vs, h => by rw [List.map_cons, ha x v h.1, Evs.map ha h.2]
  | [], _ :: _, h => h.elim
  | _ :: _, [], h => h.elim
theorem run_callFunc {P : Program} {f : FuncId} (h : CallOk P f) (args : Array Value) (w : World) : (callFunc f args).run P w = .ok (.enter f args) w := by
  obtain ⟨fn, h1, h2, h3⟩ := h
  simp only [callFunc, Sem.run_bind, program, Sem.run, Result.andThen_ok, h1, h2, h3]
  simp

section
variable {u : Bool} {C : Cx} {Q : Post} {ops : Array Oper} {rest : List Oper} {M : Mem} {H : List Ent} {l : Slots}

/-- What a call does, once the callee is known. -/
theorem Ops.enter {o : Oper} {f : FuncId} {args : Array Value} {H1 H2 : List Ent} {post : Value → Mem → List Ent → Prop} (hg : Yes ops l o.guard)
    (hrun : ∀ ρ w, Ag l ρ → (execOp ρ o).run C.P w = .ok (.enter f args) w) (hf : Does C.P f args M H1 post) (hH : H = H1 ++ H2)
    (k : ∀ v M' H1', Mem.le M M' → post v M' H1' → ∀ a w, Here C M' (H1' ++ H2) l a w → opsW u C ops Q rest (a.put o.dst v) w) : Ops u C Q ops (o :: rest) M H l := by
  intro a w ha
  have h1 := hg.wanted ha.env
  simp only [opsW, h1, if_true]
  subst hH
  refine opW_enter (hrun a.eval w ha.ag) ((hf w ha.st.left).mono fun e w' ⟨v, M', H1', he, ht', hq⟩ => ⟨v, he, ?_⟩)
  exact k v M' H1' ht'.le hq a w' (ha.step (ht'.frame ha.st))
theorem run_call {P : Program} {o : Oper} {f : FuncId} {xs : List Operand} {vs : List Value} {ts : Array TypeId} (ho : o.op = .call { callee := .value (.func f), args := xs.toArray, argTypes := ts }) (hc : CallOk P f) (hx : Evs l xs vs) :
    ∀ ρ w, Ag l ρ → (execOp ρ o).run P w = .ok (.enter f vs.toArray) w := fun ρ w ha => by
  have hm := hx.map ha
  have hfn : ρ (.func f) = .func (.func f) #[] #[] := ha _ _ rfl
  simp [execOp, ho, resolve, Deferred.ofValue, hfn, Sem.run_bind, invoke, hm, run_callFunc hc]
/-- A call of a function value. -/
theorem run_callv {P : Program} {o : Oper} {t : Operand} {f : FuncId} {xs : List Operand} {vs cs : List Value} {ts : Array TypeId} (ho : o.op = .call { callee := .value t, args := xs.toArray, argTypes := ts }) (hc : CallOk P f)
    (ht : ev l t = some (.func (.func f) #[] cs.toArray)) (hx : Evs l xs vs) : ∀ ρ w, Ag l ρ → (execOp ρ o).run P w = .ok (.enter f (vs ++ cs).toArray) w := fun ρ w ha => by
  have hm := hx.map ha
  simp [execOp, ho, resolve, Deferred.ofValue, ha _ _ ht, Sem.run_bind, invoke, hm, run_callFunc hc]
theorem Ops.call {o : Oper} {d : Nat} {f : FuncId} {xs : List Operand} {vs : List Value} {ts : Array TypeId} {H1 H2 : List Ent} {post : Value → Mem → List Ent → Prop} (ho : o.op = .call { callee := .value (.func f), args := xs.toArray, argTypes := ts }) (hd : o.dst = some d)
    (hg : Yes ops l o.guard) (hN : Nat.blt d C.N = true) (hc : CallOk C.P f) (hf : Does C.P f vs.toArray M H1 post) (hx : Evs l xs vs) (hH : H = H1 ++ H2)
    (k : ∀ v M' H1', Mem.le M M' → post v M' H1' → Ops u C Q ops rest M' (H1' ++ H2) ((d, v) :: l)) : Ops u C Q ops (o :: rest) M H l :=
  Ops.enter hg (run_call ho hc hx) hf hH fun v M' H1' hm hq a w ha => by
    rw [hd]; exact k v M' H1' hm hq _ _ (ha.put d v (by simpa using hN))
theorem Ops.call0 {o : Oper} {f : FuncId} {xs : List Operand} {vs : List Value} {ts : Array TypeId} {H1 H2 : List Ent} {post : Value → Mem → List Ent → Prop} (ho : o.op = .call { callee := .value (.func f), args := xs.toArray, argTypes := ts }) (hd : o.dst = none)
    (hg : Yes ops l o.guard) (hc : CallOk C.P f) (hf : Does C.P f vs.toArray M H1 post) (hx : Evs l xs vs) (hH : H = H1 ++ H2)
    (k : ∀ v M' H1', Mem.le M M' → post v M' H1' → Ops u C Q ops rest M' (H1' ++ H2) l) : Ops u C Q ops (o :: rest) M H l :=
  Ops.enter hg (run_call ho hc hx) hf hH fun v M' H1' hm hq a w ha => by
    rw [hd]; exact k v M' H1' hm hq _ _ ha
theorem Ops.callv {o : Oper} {d : Nat} {t : Operand} {f : FuncId} {xs : List Operand} {vs cs : List Value} {ts : Array TypeId} {H1 H2 : List Ent} {post : Value → Mem → List Ent → Prop} (ho : o.op = .call { callee := .value t, args := xs.toArray, argTypes := ts }) (hd : o.dst = some d)
    (hg : Yes ops l o.guard) (hN : Nat.blt d C.N = true) (hc : CallOk C.P f) (ht : ev l t = some (.func (.func f) #[] cs.toArray)) (hf : Does C.P f (vs ++ cs).toArray M H1 post) (hx : Evs l xs vs) (hH : H = H1 ++ H2)
    (k : ∀ v M' H1', Mem.le M M' → post v M' H1' → Ops u C Q ops rest M' (H1' ++ H2) ((d, v) :: l)) : Ops u C Q ops (o :: rest) M H l :=
  Ops.enter hg (run_callv ho hc ht hx) hf hH fun v M' H1' hm hq a w ha => by
    rw [hd]; exact k v M' H1' hm hq _ _ (ha.put d v (by simpa using hN))

/-! ### Steps that turn nothing in the machine -/
/-- These entries, in this order; the others are given up. -/
def sel (H : List Ent) : List Nat → List Ent
  | [] => []
  | j :: js => match H[j]? with
    | some e => e :: sel H js
    | none => sel H js
theorem sel_mem {H : List Ent} {e : Ent} : ∀ {js : List Nat}, e ∈ sel H js → ∃ j ∈ js, H[j]? = some e
  | [], h => by simp [sel] at h
  | j :: js, h => by
    simp only [sel] at h
    cases hj : H[j]? with
    | none =>
      rw [hj] at h
      obtain ⟨k, hk, he⟩ := sel_mem h
      exact ⟨k, List.mem_cons_of_mem _ hk, he⟩
    | some f =>
      rw [hj] at h
      rcases List.mem_cons.1 h with rfl | h
      · exact ⟨j, List.mem_cons_self, hj⟩
      · obtain ⟨k, hk, he⟩ := sel_mem h
        exact ⟨k, List.mem_cons_of_mem _ hk, he⟩
theorem keys_inj {b : Nat} {o o' : Obj} : ∀ {H : List Ent} {j k : Nat}, (keys H).Nodup → H[j]? = some (some (b, o)) → H[k]? = some (some (b, o')) → j = k
  | [], j, k, _, h, _ => by simp at h
  | e :: H, 0, 0, _, _, _ => rfl
  | e :: H, j + 1, k + 1, hn, h1, h2 => by
    have hn' : (keys H).Nodup := by
      rcases e with _ | ⟨c, q⟩
      · exact hn
      · exact (List.nodup_cons.1 hn).2
    have e1 : j = k := keys_inj hn' (by simpa using h1) (by simpa using h2)
    rw [e1]
  | e :: H, 0, k + 1, hn, h1, h2 => by
    simp only [List.getElem?_cons_zero, Option.some.injEq] at h1
    subst h1
    simp only [keys, List.nodup_cons] at hn
    exact absurd (mem_keys.2 ⟨o', List.mem_of_getElem? (by simpa using h2)⟩) hn.1
  | e :: H, j + 1, 0, hn, h1, h2 => by
    simp only [List.getElem?_cons_zero, Option.some.injEq] at h2
    subst h2
    simp only [keys, List.nodup_cons] at hn
    exact absurd (mem_keys.2 ⟨o, List.mem_of_getElem? (by simpa using h1)⟩) hn.1
theorem Tr.sel {M0 M : Mem} {H0 H : List Ent} {w0 w : World} (js : List Nat) (hn : js.Nodup) (h : Tr M0 H0 w0 M H w) : Tr M0 H0 w0 M (Tw.sel H js) w := by
  have hm : ∀ e, e ∈ Tw.sel H js → e ∈ H := fun e he => let ⟨j, _, hj⟩ := sel_mem he; List.mem_of_getElem? hj
  refine ⟨⟨h.st.mem, fun b o hb => h.st.own b o (hm _ hb), ?_⟩, h.le, h.os, h.tape, h.output, h.size, h.block, h.memNew, fun b hb => ?_⟩
  · clear hm
    have hnd := h.st.nodup
    induction js with
    | nil => exact List.nodup_nil
    | cons j js ih =>
      have ih := ih (List.nodup_cons.1 hn).2
      simp only [Tw.sel]
      cases hj : H[j]? with
      | none => exact ih
      | some e =>
        rcases e with _ | ⟨b, o⟩
        · exact ih
        · simp only [keys, List.nodup_cons]
          refine ⟨fun hb => ?_, ih⟩
          obtain ⟨o', ho'⟩ := mem_keys.1 hb
          obtain ⟨k, hk, hk'⟩ := sel_mem ho'
          have := keys_inj hnd hj hk'
          subst this
          exact (List.nodup_cons.1 hn).1 hk
  · obtain ⟨o, ho⟩ := mem_keys.1 hb
    exact h.ownNew b (mem_keys.2 ⟨o, hm _ ho⟩)
theorem Ops.sel (js : List Nat) (hn : js.Nodup) (h : Ops u C Q ops rest M (Tw.sel H js) l) : Ops u C Q ops rest M H l := fun a w ha => h a w (ha.ghost (·.sel js hn))
theorem Cd.sel {c : Code} (js : List Nat) (hn : js.Nodup) (h : Cd C Q c M (Tw.sel H js) l) : Cd C Q c M H l := fun a w ha => h a w (ha.ghost (·.sel js hn))
theorem Lp.sel {c : Code} (js : List Nat) (hn : js.Nodup) (h : Lp C Q c M (Tw.sel H js) l) : Lp C Q c M H l := fun a w ha => h a w (ha.ghost (·.sel js hn))
theorem Lp.blank {c : Code} (h : Lp C Q c M (none :: H) l) : Lp C Q c M H l := fun a w ha => h a w (ha.ghost (·.blank))
theorem Ex.sel {x : Exit} (js : List Nat) (hn : js.Nodup) (h : Ex C Q x M (Tw.sel H js) l) : Ex C Q x M H l := fun a w ha => h a w (ha.ghost (·.sel js hn))
theorem Ops.perm {H' : List Ent} (p : H.Perm H') (h : Ops u C Q ops rest M H' l) : Ops u C Q ops rest M H l := fun a w ha => h a w (ha.ghost (·.perm p))
theorem Ops.pull {e : Ent} (j : Nat) (hj : H[j]? = some e) (h : Ops u C Q ops rest M (e :: H.eraseIdx j) l) : Ops u C Q ops rest M H l :=
  h.perm (by
    have h1 := split_at hj
    have h2 : H.eraseIdx j = H.take j ++ H.drop (j + 1) := List.eraseIdx_eq_take_drop_succ ..
    rw [h2]
    conv => lhs; rw [h1]
    exact List.perm_middle)
theorem Ops.drop {e : Ent} (h : Ops u C Q ops rest M H l) : Ops u C Q ops rest M (e :: H) l := fun a w ha => h a w (ha.ghost (·.drop))
theorem Ops.blank (h : Ops u C Q ops rest M (none :: H) l) : Ops u C Q ops rest M H l := fun a w ha => h a w (ha.ghost (·.blank))
theorem Ops.freeze {b : Nat} {o : Obj} (h : ∀ M', Mem.le M M' → M' b = some o → Ops u C Q ops rest M' H l) : Ops u C Q ops rest M (some (b, o) :: H) l := fun a w ha =>
  h (M.add b o) (Mem.le_add o (ha.st.own b o (by simp)).2) (Mem.add_same M b o) a w (ha.ghost (·.freeze))
theorem Cd.drop {e : Ent} {c : Code} (h : Cd C Q c M H l) : Cd C Q c M (e :: H) l := fun a w ha => h a w (ha.ghost (·.drop))
theorem Cd.blank {c : Code} (h : Cd C Q c M (none :: H) l) : Cd C Q c M H l := fun a w ha => h a w (ha.ghost (·.blank))
theorem Cd.perm {H' : List Ent} {c : Code} (p : H.Perm H') (h : Cd C Q c M H' l) : Cd C Q c M H l := fun a w ha => h a w (ha.ghost (·.perm p))
theorem Cd.pull {e : Ent} {c : Code} (j : Nat) (hj : H[j]? = some e) (h : Cd C Q c M (e :: H.eraseIdx j) l) : Cd C Q c M H l := fun a w ha => by
  have := Ops.pull (u := true) (C := C) (Q := fun _ a w => c.wpIn C.F 0 C.P Q a w) (ops := #[]) (rest := []) j hj (fun a w ha => h a w ha)
  exact this a w ha
theorem Cd.freeze {b : Nat} {o : Obj} {c : Code} (h : ∀ M', Mem.le M M' → M' b = some o → Cd C Q c M' H l) : Cd C Q c M (some (b, o) :: H) l := fun a w ha =>
  h (M.add b o) (Mem.le_add o (ha.st.own b o (by simp)).2) (Mem.add_same M b o) a w (ha.ghost (·.freeze))
theorem Ex.drop {e : Ent} {x : Exit} (h : Ex C Q x M H l) : Ex C Q x M (e :: H) l := fun a w ha => h a w (ha.ghost (·.drop))
theorem Ex.blank {x : Exit} (h : Ex C Q x M (none :: H) l) : Ex C Q x M H l := fun a w ha => h a w (ha.ghost (·.blank))
theorem Ex.pull {e : Ent} {x : Exit} (j : Nat) (hj : H[j]? = some e) (h : Ex C Q x M (e :: H.eraseIdx j) l) : Ex C Q x M H l := fun a w ha => by
  have := Ops.pull (u := true) (C := C) (Q := fun _ a w => Q x a w) (ops := #[]) (rest := []) j hj (fun a w ha => h a w ha)
  exact this a w ha
theorem Ex.freeze {b : Nat} {o : Obj} {x : Exit} (h : ∀ M', Mem.le M M' → M' b = some o → Ex C Q x M' H l) : Ex C Q x M (some (b, o) :: H) l := fun a w ha =>
  h (M.add b o) (Mem.le_add o (ha.st.own b o (by simp)).2) (Mem.add_same M b o) a w (ha.ghost (·.freeze))

/-- An owned slice is frozen. -/
theorem OSl.frozen {α : Type} {E : Enc α} {xs : List α} {a : Option Addr} {n c : Nat} {t : TypeId} {e : Ent} (hO : OSl M E xs a n c t e) : (e = none ∧ SRep M E xs a n c) ∨ ∃ b o, e = some (b, o) ∧ ∀ M', Mem.le M M' → M' b = some o → SRep M' E xs a n c := by
  rcases hO.out with ⟨rfl, rfl, rfl, rfl⟩ | ⟨b, cs, rfl, rfl, hs, hx⟩
  · exact .inl ⟨rfl, ⟨hO.len, hO.cap, .inl rfl⟩⟩
  · refine .inr ⟨b, _, rfl, fun M' hm hb => ⟨hO.len, hO.cap, .inr ⟨b, 0, cs, t, (0, 0), rfl, hb, fun i x hi => ?_⟩⟩⟩
    obtain ⟨es, h1, h2⟩ := hx i x hi
    exact ⟨es, E.mono hm h1, by rw [Nat.zero_add]; exact h2⟩
theorem Ex.freezeO {α : Type} {E : Enc α} {xs : List α} {a : Option Addr} {n c : Nat} {t : TypeId} {e : Ent} {x : Exit} (hO : OSl M E xs a n c t e) (h : ∀ M', Mem.le M M' → SRep M' E xs a n c → Ex C Q x M' H l) : Ex C Q x M (e :: H) l := by
  rcases hO.frozen with ⟨rfl, hS⟩ | ⟨b, o, rfl, hS⟩
  · exact Ex.drop (h M (Mem.le_refl _) hS)
  · exact Ex.freeze fun M' hm hb => h M' hm (hS M' hm hb)
theorem Ops.freezeO {α : Type} {E : Enc α} {xs : List α} {a : Option Addr} {n c : Nat} {t : TypeId} {e : Ent} (hO : OSl M E xs a n c t e) (h : ∀ M', Mem.le M M' → SRep M' E xs a n c → Ops u C Q ops rest M' H l) : Ops u C Q ops rest M (e :: H) l := by
  rcases hO.frozen with ⟨rfl, hS⟩ | ⟨b, o, rfl, hS⟩
  · exact Ops.drop (h M (Mem.le_refl _) hS)
  · exact Ops.freeze fun M' hm hb => h M' hm (hS M' hm hb)

/-! ### The way out -/
/-- What a function is to come to: the value, the frozen part, what it owns. -/
abbrev Fin (M0 : Mem) (H0 : List Ent) (w0 : World) (post : Value → Mem → List Ent → Prop) (e : Ending) (w' : World) : Prop := ∃ v M' H', e = .returned v ∧ Tr M0 H0 w0 M' H' w' ∧ post v M' H'
def ResOk (P : Program) (M : Mem) (H : List Ent) (l : Slots) : List ResultVar → List Value → Prop
  | [], [] => True
  | .tmp t :: rs, v :: vs => look t l = some v ∧ ResOk P M H l rs vs
  | .cell t T :: rs, v :: vs => (∃ p, look t l = some (.pointer p) ∧ ((One P T ∧ Pt M H p [v]) ∨ (Rowy P T ∧ ∃ es n, v = .agg es.toArray ∧ Sz P T n ∧ Pt M H p es ∧ es.length = n))) ∧ ResOk P M H l rs vs
  | _, _ => False
theorem ResOk.run {P : Program} {N : Nat} {a : Act} {w : World} (ha : Env N l a) (hw : Rd M H w) : ∀ {rs : List ResultVar} {vs : List Value}, ResOk P M H l rs vs →
    (rs.mapM (m := Sem) fun | .tmp t => pure (a.tmps.getD t undef) | .cell x T => do loadVar T (← asAddr (a.tmps.getD x undef))).run P w = .ok vs w
  | [], [], _ => by simp
  | [], _ :: _, h => h.elim
  | .tmp t :: rs, [], h => h.elim
  | .cell t T :: rs, [], h => h.elim
  | .tmp t :: rs, v :: vs, h => by
    have h1 := ha.get t v h.1
    have ih := ResOk.run ha hw h.2
    simp only [List.mapM_cons, Sem.run_bind, Sem.run_pure, Result.andThen_ok, ih]
    simp [Array.getD_eq_getD_getElem?, h1]
  | .cell t T :: rs, v :: vs, h => by
    obtain ⟨⟨p, hp, hq⟩, hr⟩ := h
    have h1 := ha.get t _ hp
    have ih := ResOk.run ha hw hr
    have e1 : a.tmps.getD t undef = .pointer p := by simp [Array.getD_eq_getD_getElem?, h1]
    have hv : (do loadVar T (← asAddr (a.tmps.getD t undef)) : Sem Value).run P w = .ok v w := by
      rw [e1]
      rcases hq with ⟨hT, hpt⟩ | ⟨hT, es, _, rfl, hs, hpt, rfl⟩
      · obtain ⟨b, q, rfl, hr⟩ := hpt.range hw
        have hc := hr 0 v rfl
        simp only [Nat.add_zero] at hc
        simp [asAddr, loadVar, Sem.run_bind, run_isAgg_one hT, load, Sem.run, hc]
      · obtain ⟨b, q, rfl, hr⟩ := hpt.range hw
        obtain ⟨d, h1, h2⟩ := hT
        simp [asAddr, Sem.run_bind, run_loadVar_mid w b q T es d hr h1 h2 hs.out]
    simp only [List.mapM_cons, Sem.run_bind, Sem.run_pure, Result.andThen_ok, ih, hv]
def tup : List Value → Value
  | [v] => v
  | vs => .tuple vs.toArray
theorem Tr.take {M0 M : Mem} {H0 H : List Ent} {w0 w : World} (n : Nat) (h : Tr M0 H0 w0 M H w) : Tr M0 H0 w0 M (H.take n) w := by
  have hk : (keys (H.take n)).Sublist (keys H) := by
    have : ∀ (A B : List Ent), (keys A).Sublist (keys (A ++ B)) := fun A B => by rw [keys_append]; exact List.sublist_append_left _ _
    have h1 := this (H.take n) (H.drop n)
    rwa [List.take_append_drop] at h1
  exact ⟨⟨h.st.mem, fun b o hb => h.st.own b o (List.mem_of_mem_take hb), hk.nodup h.st.nodup⟩, h.le, h.os, h.tape, h.output, h.size, h.block, h.memNew, fun b hb => h.ownNew b (hk.mem hb)⟩
/-- What the body of a function is to come to. -/
def BodyQ (C : Cx) (fn : Func) (R : Ending → World → Prop) : Post := fun e a w => match e with
  | .normal => LeavesInM C.F 0 C.P fn a.tmps R a.defers .returning w
  | .ret => LeavesInM C.F 0 C.P fn a.tmps R a.defers .returning w
  | _ => False
theorem leaves_marks {C : Cx} {fn : Func} {tmps : Array Value} {R : Ending → World → Prop} {M0 M : Mem} {H0 H : List Ent} {w0 : World} : ∀ (D : List Nat) (w : World), Tr M0 H0 w0 M (H ++ ments D) w →
    (∀ w', Tr M0 H0 w0 M H w' → LeavesIn C.F 0 C.P fn tmps R [] .returning w') → LeavesInM C.F 0 C.P fn tmps R (marks D) .returning w
  | [], w, ht, hk => by
    simp only [ments, List.map_nil, List.append_nil] at ht
    exact hk w ht
  | d :: D, w, ht, hk => by
    have hh := (ht.st.own d (.deferred (some [])) (by simp [ments])).1
    refine ⟨by simp, .inl ⟨d, _, rfl, run_takeDeferred hh, ?_⟩⟩
    have h1 : Tr M0 H0 w0 M (H ++ some (d, .deferred none) :: ments D) (w.putObj d (.deferred none)) := Tr.set (o := .deferred (some [])) (H1 := H) (H2 := ments D) ht ⟨rfl, rfl, rfl⟩ rfl
    exact leaves_marks D _ (h1.perm List.perm_middle).drop hk
theorem Ex.out {fn : Func} {x : Exit} {vs : List Value} {v : Value} {rs : List ResultVar} {post : Value → Mem → List Ent → Prop} (n : Nat) (hro : C.ro = none) (hx : x = .ret ∨ x = .normal) (hrs : fn.results = rs.toArray) (hr : ResOk C.P M H l rs vs)
    (hv : tup vs = v) (hp : post v M (H.take n)) : Ex C (BodyQ C fn (Fin C.M0 C.H0 C.w0 post)) x M H l := fun a w ha => by
  have key : LeavesInM C.F 0 C.P fn a.tmps (Fin C.M0 C.H0 C.w0 post) a.defers .returning w := by
    obtain ⟨X, hside, ht⟩ := ha.out
    rw [hro] at hside
    obtain ⟨D, hd, rfl⟩ := hside
    rw [hd]
    refine leaves_marks D w ht fun w' ht' => ?_
    have hrun : (results fn a.tmps).run C.P w' = .ok v w' := by
      have h1 := ResOk.run (P := C.P) ha.env ht'.rd hr
      unfold results
      rw [hrs, List.mapM_toArray]
      simp only [map_eq_pure_bind, Sem.run_bind]
      refine (congrArg (fun r : Result (List Value) => (r.andThen _).andThen _) h1).trans ?_
      subst hv
      match vs with
      | [] => rfl
      | [u] => rfl
      | u :: u' :: us => simp [tup]
    exact ⟨v, hrun, v, M, _, rfl, ht'.take n, hp⟩
  rcases hx with rfl | rfl
  · exact key
  · exact key
end

/-! ### The way in -/
def slots0 : Nat → List Value → Slots
  | _, [] => []
  | k, v :: vs => (k, v) :: slots0 (k + 1) vs
theorem slots0_look : ∀ (vs : List Value) (k t : Nat) (v : Value), look t (slots0 k vs) = some v → k ≤ t ∧ vs[t - k]? = some v
  | [], _, _, _, h => by simp [slots0, look_nil] at h
  | u :: us, k, t, v, h => by
    simp only [slots0] at h
    by_cases e : k = t
    · subst e
      rw [look_cons_same] at h
      simp only [Option.some.injEq] at h
      subst h
      exact ⟨Nat.le_refl _, by simp⟩
    · rw [look_cons_other _ _ e] at h
      obtain ⟨h1, h2⟩ := slots0_look us (k + 1) t v h
      refine ⟨by omega, ?_⟩
      have : t - k = t - (k + 1) + 1 := by omega
      rw [this, List.getElem?_cons_succ]; exact h2
theorem Does.of {P : Program} {f : FuncId} {fn : Func} {c : Code} {vs : List Value} {M : Mem} {H : List Ent} {post : Value → Mem → List Ent → Prop} (hf : P.funcs[f]? = some fn) (hb : fn.body = some c) (hn : Nat.ble vs.length fn.ntmps = true)
    (h : ∀ w0, Cd ⟨P, fn.ntmps, none, M, H, w0⟩ (BodyQ ⟨P, fn.ntmps, none, M, H, w0⟩ fn (Fin M H w0 post)) c M H (slots0 0 vs)) : Does P f vs.toArray M H post := fun w s => by
  refine callsIn_wide.1 (callsIn_of_wp_marks (F := Fence.wide) (n := 0) hf hb trivial ?_)
  refine wpIn_mono (h w { tmps := vs.toArray ++ Array.replicate (fn.ntmps - vs.toArray.size) undef, defers := [] } w ⟨⟨?_, fun t v hv => ?_⟩, [], ⟨[], rfl, rfl⟩, by rw [List.append_nil]; exact .refl s⟩) fun e a w hq => ?_
  · have : vs.length ≤ fn.ntmps := by simpa using hn
    simp; omega
  · obtain ⟨_, h2⟩ := slots0_look vs 0 t v hv
    have hl := (List.getElem?_eq_some_iff.1 h2).1
    simp only [Nat.sub_zero] at h2 hl
    show (vs.toArray ++ Array.replicate (fn.ntmps - vs.toArray.size) undef)[t]? = some v
    rw [Array.getElem?_append_left (by simpa using hl)]
    simpa using h2
  · cases e <;> first | exact hq | exact hq.elim

/-! ### Joins and loops -/
section
variable {C : Cx} {Q : Post} {M : Mem} {H : List Ent} {l : Slots}
theorem Cd.join {x y : Code} (G : Mem → List Ent → Slots → Prop) (hy : ∀ M H l, G M H l → Cd C Q y M H l) (h : (∀ M H l, G M H l → Ex C (Exit.then (y.wpIn C.F 0 C.P Q) Q) .normal M H l) → Cd C (Exit.then (y.wpIn C.F 0 C.P Q) Q) x M H l) : Cd C Q (.seq x y) M H l :=
  Cd.seq (h fun M H l hg => Ex.next (hy M H l hg))
theorem Lp.ind {c : Code} (G : Nat → Mem → List Ent → Slots → Prop) (h0 : ∀ M H l, ¬ G 0 M H l)
    (hs : ∀ k, (∀ M H l, G k M H l → Ex C (Exit.then (LoopAt C c Q) Q) .normal M H l) → ∀ M H l, G (k + 1) M H l → Cd C (Exit.then (LoopAt C c Q) Q) c M H l) : ∀ k M H l, G k M H l → Lp C Q c M H l := by
  intro k
  induction k with
  | zero => exact fun M H l h => absurd h (h0 M H l)
  | succ k ih => exact fun M H l h => Lp.round (hs k (fun M H l hg => Ex.again (ih M H l hg)) M H l h)
end

/-! ### Regions that draw their order -/
/-- A post that lets out no panic, and no end of room. -/
class PQ (Q : Post) : Prop where
  panic : ∀ c a w, ¬ Q (.panic c) a w
  outgrown : ∀ a w, ¬ Q .outgrown a w
theorem PQ.out {Q : Post} [h : PQ Q] (c) (d : Option Tmp) (v : Value) (a : Act) (w : World) : Q (.panic c) (Act.put a d v) w → Q (.panic c) a w := fun hq => absurd hq (h.panic _ _ _)
theorem PQ.room {Q : Post} [h : PQ Q] : ¬ LetsOut Q := fun ⟨a, w, hq⟩ => h.outgrown a w hq
instance {K : Act → World → Prop} {Q : Post} [h : PQ Q] : PQ (Exit.then K Q) := ⟨h.panic, h.outgrown⟩
instance {id : Nat} {Q : Post} [h : PQ Q] : PQ (Exit.inBlock id Q) := ⟨h.panic, h.outgrown⟩
instance {C : Cx} {fn : Func} {R : Ending → World → Prop} : PQ (BodyQ C fn R) := ⟨fun c a w h => h, fun a w h => h⟩

/-- Orders that stand for all: a step that is taken ahead of its time; a step that alone may come; two of which either may come. -/
inductive Sched where
  | nil
  | take (i : Nat) (t : Sched)
  | one (i : Nat) (t : Sched)
  | two (i : Nat) (t : Sched) (j : Nat) (u : Sched)
  | three (i : Nat) (t : Sched) (j : Nat) (u : Sched) (k : Nat) (v : Sched)
def Seq (P : Program) (Q : Post) (S : World → Prop) (ops : Array Oper) : Sched → Act → World → Prop
  | .nil, a, w => Q .normal a w
  | .take i t, a, w => ∃ o, ops[i]? = some o ∧ ∃ v, YieldsIf P ops S o v a ∧ Seq P Q S ops t (a.put o.dst v) w
  | .one i t, a, w => wpOp P ops Q i (fun a' w' => S w' ∧ Seq P Q S ops t a' w') a w
  | .two i t j u, a, w => wpOp P ops Q i (fun a' w' => S w' ∧ Seq P Q S ops t a' w') a w ∧ wpOp P ops Q j (fun a' w' => S w' ∧ Seq P Q S ops u a' w') a w
  | .three i t j u k v, a, w => wpOp P ops Q i (fun a' w' => S w' ∧ Seq P Q S ops t a' w') a w ∧ wpOp P ops Q j (fun a' w' => S w' ∧ Seq P Q S ops u a' w') a w ∧ wpOp P ops Q k (fun a' w' => S w' ∧ Seq P Q S ops v a' w') a w
/-- Does it stand for all orders? -/
def okSeq (ops : Array Oper) : Nat → Sched → Array Bool → Bool
  | _, .nil, listed => (Region.ready .any ops listed).isEmpty
  | n + 1, .take i t, listed => (Region.ready .any ops listed).contains i &&
      ((List.range ops.size).all fun j => j == i || listed.getD j true || ((ops.getD j default).after.any fun e => Region.binds .any e && e.on == i) || (ops.getD i default).apart ops (ops.getD j default)) && okSeq ops n t (listed.setIfInBounds i true)
  | n + 1, .one i t, listed => Region.ready .any ops listed == [i] && okSeq ops n t (listed.setIfInBounds i true)
  | n + 1, .two i t j u, listed => Region.ready .any ops listed == [i, j] && okSeq ops n t (listed.setIfInBounds i true) && okSeq ops n u (listed.setIfInBounds j true)
  | n + 1, .three i t j u k v, listed => Region.ready .any ops listed == [i, j, k] && okSeq ops n t (listed.setIfInBounds i true) && okSeq ops n u (listed.setIfInBounds j true) && okSeq ops n v (listed.setIfInBounds k true)
  | 0, _, _ => false
def noSelect (ops : Array Oper) : Bool := ops.all fun o => match o.op with | .select .. => false | .defer .. => false | _ => true

theorem seq_sound {P : Program} {Q : Post} [hQ : PQ Q] {S : World → Prop} {ops : Array Oper} (hsel : noSelect ops = true) :
    ∀ (n : Nat) (L : Sched) (listed : Array Bool) (a : Act) (w : World), okSeq ops n L listed = true → S w → Seq P Q S ops L a w → wpAnyH P .any ops Q S n listed a w := by
  have hs : ∀ (j : Nat) (o : Oper) cs b, ops[j]? = some o → o.op ≠ .select cs b := fun j o cs b hj he => by
    have := (Array.all_eq_true_iff_forall_mem.1 hsel) o (Array.mem_of_getElem? hj)
    simp [he] at this
  intro n
  induction n with
  | zero =>
    intro L listed a w hok _ h
    cases L with
    | nil =>
      simp only [okSeq, List.isEmpty_iff] at hok
      exact wpAnyH_done hok h 0
    | _ => simp [okSeq] at hok
  | succ n ih =>
    intro L listed a w hok hS h
    cases L with
    | nil =>
      simp only [okSeq, List.isEmpty_iff] at hok
      exact wpAnyH_done hok h _
    | take i t =>
      obtain ⟨o, ho, v, hy, hr⟩ := h
      simp only [okSeq, Bool.and_eq_true, List.contains_iff_mem, List.all_eq_true, List.mem_range, Bool.or_eq_true, beq_iff_eq] at hok
      obtain ⟨⟨h1, h2⟩, h3⟩ := hok
      refine wpAnyH_first ho hs (fun c a w => PQ.out c _ _ a w) n listed a w (fun j oj hj hne hl hb => ?_) h1 hy hS (ih _ _ _ _ h3 hS hr)
      have hjl := (Array.getElem?_eq_some_iff.1 hj).1
      have e1 : ops.getD j default = oj := by simp [Array.getD_eq_getD_getElem?, hj]
      have e2 : ops.getD i default = o := by simp [Array.getD_eq_getD_getElem?, ho]
      rcases h2 j hjl with ((hc | hc) | hc) | hc
      · exact absurd hc hne
      · rw [hl] at hc; cases hc
      · rw [e1, Array.any_eq_true] at hc
        obtain ⟨k, hk, hc⟩ := hc
        simp only [Bool.and_eq_true, beq_iff_eq] at hc
        exact absurd hc.2 (hb _ (Array.getElem_mem hk) hc.1)
      · rw [e1, e2] at hc; exact hc
    | one i t =>
      simp only [okSeq, Bool.and_eq_true, beq_iff_eq] at hok
      refine wpAnyH_all hok.1 (by simp) (fun j hj => ?_)
      simp only [List.mem_singleton] at hj
      subst hj
      exact wpOp_mono (fun a' w' h' => ⟨h'.1, ih _ _ _ _ hok.2 h'.1 h'.2⟩) h
    | two i t j u =>
      simp only [okSeq, Bool.and_eq_true, beq_iff_eq] at hok
      refine wpAnyH_all hok.1.1 (by simp) (fun k hk => ?_)
      simp only [List.mem_cons, List.not_mem_nil, or_false] at hk
      rcases hk with rfl | rfl
      · exact wpOp_mono (fun a' w' h' => ⟨h'.1, ih _ _ _ _ hok.1.2 h'.1 h'.2⟩) h.1
      · exact wpOp_mono (fun a' w' h' => ⟨h'.1, ih _ _ _ _ hok.2 h'.1 h'.2⟩) h.2
    | three i t j u k v =>
      simp only [okSeq, Bool.and_eq_true, beq_iff_eq] at hok
      refine wpAnyH_all hok.1.1.1 (by simp) (fun q hq => ?_)
      simp only [List.mem_cons, List.not_mem_nil, or_false] at hq
      rcases hq with rfl | rfl | rfl
      · exact wpOp_mono (fun a' w' h' => ⟨h'.1, ih _ _ _ _ hok.1.1.2 h'.1 h'.2⟩) h.1
      · exact wpOp_mono (fun a' w' h' => ⟨h'.1, ih _ _ _ _ hok.1.2 h'.1 h'.2⟩) h.2.1
      · exact wpOp_mono (fun a' w' h' => ⟨h'.1, ih _ _ _ _ hok.2 h'.1 h'.2⟩) h.2.2

/-- In a region that draws: from here on. -/
def Opd (C : Cx) (Q : Post) (S : World → Prop) (ops : Array Oper) (L : Sched) (M : Mem) (H : List Ent) (l : Slots) : Prop :=
  ∀ a w, Here C M H l a w → Seq C.P Q S ops L a w

section
variable {C : Cx} {Q : Post} {S : World → Prop} {ops : Array Oper} {rest t u : Sched} {M : Mem} {H : List Ent} {l : Slots} {i j : Nat}
theorem wpOps_in {P : Program} {F : Fence} (hF : F = { Fence.wide with round := F.round }) {Q : Post} (hq : ¬ LetsOut Q) {ops : Array Oper} (hsel : noSelect ops = true) : ∀ (L : List Nat) (a : Act) (w : World), wpOps P ops Q L a w → wpOpsIn F 0 P ops Q L a w
  | [], a, w, h => h
  | i :: L, a, w, h => by
    simp only [wpOps] at h
    simp only [wpOpsIn]
    cases ho : ops[i]? with
    | none => rw [ho] at h; exact wpOps_in hF hq hsel L a w h
    | some o =>
      rw [ho] at h
      simp only at h ⊢
      split
      · rename_i hw
        rw [if_pos hw] at h
        have h := h.resolve_right (fun hh => hq hh.2)
        have hd : ∀ c, o.op ≠ .defer c := fun c hc => by
          have := (Array.all_eq_true_iff_forall_mem.1 hsel) o (Array.mem_of_getElem? ho)
          simp [hc] at this
        refine ⟨fun f _ => by rw [hF]; trivial, ?_⟩
        rw [Oper.semAt_eq _ _ _ hd]
        unfold Oper.wp at h
        generalize (execOp a.eval o).run P w = r at h ⊢
        cases r with
        | ok n w' =>
          cases n with
          | value v => exact wpOps_in hF hq hsel L _ _ h
          | skip => exact wpOps_in hF hq hsel L _ _ h
          | defer d => exact wpOps_in hF hq hsel L _ _ h
          | enter f args =>
            rw [Oper.uponIn_enter]
            refine ⟨fun he => (by rw [hF] at he; simp [Fence.wide] at he), ?_⟩
            have h' : Calls P f args w' _ := h
            refine CallsIn.mono (R := fun | .returned v, w'' => wpOps P ops Q L (a.put o.dst v) w'' | .panicked chain, w'' => Q (.panic chain) a w'' | .outgrown, _ => LetsOut Q) ?_ fun e w'' he => ?_
            · rw [hF]; exact (show CallsIn Fence.wide _ P f args w' _ from callsIn_wide.2 h')
            · cases e with
              | returned v => exact wpOps_in hF hq hsel L _ _ he
              | panicked c => exact he
              | outgrown => exact he
          | row row args =>
            rw [Oper.uponIn_row]
            refine ⟨fun he => (by rw [hF] at he; simp [Fence.wide] at he), fun c cs hr => ?_⟩
            obtain ⟨v, w2, h1, h2⟩ := h c cs
            exact ⟨v, w2, wpOps_in hF hq hsel L _ _ h1, by rw [hF]; exact (StepsIn.of_steps h2).mono fun m _ => fenced_wide P m⟩
          | round l f tmps as b => exact h.elim
          | _ => exact h.elim
        | halt x w' => cases x <;> first | exact h | exact h.elim
      · rename_i hw
        rw [if_neg hw] at h
        exact ⟨fun f _ => by rw [hF]; trivial, wpOps_in hF hq hsel L _ _ h⟩
theorem region_any {id : Nat} [hp : PQ Q] {a : Act} {w : World} (hm : C.P.follows .mixedOrders = true) (hsel : noSelect ops = true)
    (h : wpAny C.P .any ops Q ops.size (Array.replicate ops.size false) a { w with drawn := w.drawn + 1 }) : (Code.region id ops true).wpIn C.F 0 C.P Q a w :=
  wpIn_region_draw fun t => by
    simp only [Region.schedule, hm, Bool.true_or, if_true]
    exact wpOps_in rfl hp.room hsel _ _ _ (wpAny_sound ops.size t _ a _ h)
theorem Cd.draw {id : Nat} {Hs : List Ent} [PQ Q] (L : Sched) (hm : C.P.follows .mixedOrders = true) (hsel : noSelect ops = true) (hok : okSeq ops ops.size L (Array.replicate ops.size false) = true) (hi : Incl Hs H)
    (h : Opd C Q (Rd M Hs) ops L M H l) : Cd C Q (.region id ops true) M H l := fun a w ha => by
  have h0 := ha.drew (w.drawn + 1)
  exact region_any hm hsel (wpAny_of_held _ _ _ _ (seq_sound hsel _ L _ a { w with drawn := w.drawn + 1 } hok (h0.rd.mono (Mem.le_refl _) hi) (h a _ h0)))
theorem Opd.nil (h : Ex C Q .normal M H l) : Opd C Q S ops .nil M H l := fun a w ha => h a w ha
theorem Opd.val {o : Oper} {d : Nat} {v : Value} (ho : ops[i]? = some o) (hd : o.dst = some d) (hg : Yes ops l o.guard) (hN : Nat.blt d C.N = true) (hr : RunV C.P S o l v) (k : Opd C Q S ops rest M H ((d, v) :: l)) :
    Opd C Q S ops (.take i rest) M H l := fun a w ha =>
  ⟨o, ho, v, .inl ⟨hg.wanted ha.env, fun w' hw' => hr a.eval w' ha.ag hw'⟩, by rw [hd]; exact k _ _ (ha.put d v (by simpa using hN))⟩
theorem Opd.pass {o : Oper} {d : Nat} (ho : ops[i]? = some o) (hd : o.dst = some d) (hg : No ops l o.guard) (hN : Nat.blt d C.N = true) (k : Opd C Q S ops rest M H ((d, undef) :: l)) :
    Opd C Q S ops (.take i rest) M H l := fun a w ha =>
  ⟨o, ho, undef, .inr ⟨hg.wanted ha.env, rfl⟩, by rw [hd]; exact k _ _ (ha.put d undef (by simpa using hN))⟩
/-- An operation that acts: by its rule in a plain region. -/
theorem Opd.act {o : Oper} (ho : ops[i]? = some o) (h : Ops true C (fun e a w => match e with | .normal => S w ∧ Seq C.P Q S ops rest a w | e => Q e a w) ops [o] M H l) : Opd C Q S ops (.one i rest) M H l := fun a w ha => by
  have h1 := h a w ha
  show wpOp C.P ops Q i _ a w
  unfold wpOp
  simp only [ho]
  simp only [opsW, opW] at h1
  exact h1
theorem Opd.three {v : Sched} {k : Nat} (h1 : Opd C Q S ops (.one i t) M H l) (h2 : Opd C Q S ops (.one j u) M H l) (h3 : Opd C Q S ops (.one k v) M H l) : Opd C Q S ops (.three i t j u k v) M H l := fun a w ha => ⟨h1 a w ha, h2 a w ha, h3 a w ha⟩
theorem Opd.two (h1 : Opd C Q S ops (.one i t) M H l) (h2 : Opd C Q S ops (.one j u) M H l) : Opd C Q S ops (.two i t j u) M H l := fun a w ha => ⟨h1 a w ha, h2 a w ha⟩
theorem Opd.back {Hs : List Ent} {Ms : Mem} (hm : Mem.le Ms M) (hi : Incl Hs H) (h : Opd C Q (Rd Ms Hs) ops rest M H l) : Ops true C (fun e a w => match e with | .normal => Rd Ms Hs w ∧ Seq C.P Q (Rd Ms Hs) ops rest a w | e => Q e a w) ops [] M H l :=
  fun a w ha => ⟨ha.rd.mono hm hi, h a w ha⟩
end
end Go.Proofs.Ytjbfolnnepjidaa.Tw
