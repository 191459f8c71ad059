/-
  Loops over functions, for the generated walks of this claim.
-/
import Derived.Test.YtjbfolnnepjidaaAid
import Derived.Test.YtjbfolnnepjidaaTail
import Derived.RangeFuncNested
set_option linter.unusedVariables false
set_option linter.unusedSimpArgs false
namespace Go.Proofs.Ytjbfolnnepjidaa.Tw
open Go

/-- One call of yield: of the loop l, with the values vs. -/
def Round (P : Program) (l : Nat) (vs : List Value) (M : Mem) (H : List Ent) (post : Bool → Mem → List Ent → Prop) : Prop :=
  ∀ w, St M H w → ∃ fn tmps assign body, (Instr.yield l vs.toArray).run P w = .ok (.round l fn tmps assign body) w ∧
    RoundIn Fence.wide 0 P l fn tmps assign body w fun e w' => ∃ b M' H', e = .returned (.bool b) ∧ Tr M H w M' H' w' ∧ post b M' H'

/-- What an iterator does: it hands the items xs over, one by one, as long as it is told to go on. -/
def Iter {α : Type} (P : Program) (g : FuncId) (cs : List Value) (It : Mem → α → List Value → Prop) (xs : List α) (M : Mem) (Hi Ho : List Ent) : Prop :=
  ∀ (l : Nat) (J : List α → Mem → List Ent → Prop) (S : Mem → List Ent → Prop) (Hc : List Ent),
    (∀ x rest M0 M' H' vs, Mem.le M0 M' → J (x :: rest) M0 H' → It M' x vs → Round P l vs M' H' fun b M'' H'' => (b = true ∧ J rest M'' H'') ∨ (b = false ∧ S M'' H'')) →
    J xs M Hc → Does P g (.func (.yield l) #[] #[] :: cs).toArray M (Hi ++ Hc) fun _ M' H' => ∃ H0, H' = Ho ++ H0 ∧ ((∃ M0, Mem.le M0 M' ∧ J [] M0 H0) ∨ S M' H0)

section
variable {C : Cx} {Q : Post} {ops : Array Oper} {rest : List Oper} {M : Mem} {H : List Ent} {sl : Slots}
theorem opW_round {o : Oper} {a : Act} {w : World} {l fn : Nat} {tmps : Array Value} {as bd : Code} {next : Act → World → Prop} (hr : (execOp a.eval o).run C.P w = .ok (.round l fn tmps as bd) w)
    (h : RoundIn Fence.wide 0 C.P l fn tmps as bd w fun e w'' => ∃ v, e = .returned v ∧ next (a.put o.dst v) w'') : opW false C o a w next Q := by
  refine opW_in hr (fun d w' e => by cases e) ⟨_, _, rfl⟩ ?_
  rw [Oper.uponIn_round]
  refine ⟨fun he => (by simp [Cx.F, Fence.wide] at he), ?_⟩
  have h' : RoundIn C.F 0 C.P l fn tmps as bd w _ := h
  refine RoundIn.mono h' fun e w'' hh => ?_
  obtain ⟨v, he, hn⟩ := hh
  subst he
  exact hn
theorem run_yieldv {P : Program} {o : Oper} {t : Operand} {l : Nat} {xs : List Operand} {vs : List Value} {ts : Array TypeId} (ho : o.op = .call { callee := .value t, args := xs.toArray, argTypes := ts })
    (ht : ev sl t = some (.func (.yield l) #[] #[])) (hx : Evs sl xs vs) {ρ : Operand → Value} {w : World} (ha : Ag sl ρ) {fn : Nat} {tmps : Array Value} {as bd : Code} (hy : (Instr.yield l vs.toArray).run P w = .ok (.round l fn tmps as bd) w) : (execOp ρ o).run P w = .ok (.round l fn tmps as bd) w := by
  have hm := hx.map ha
  simp [execOp, ho, resolve, Deferred.ofValue, ha _ _ ht, Sem.run_bind, invoke, hm, hy]
theorem Here.back {M' : Mem} {a : Act} {w w' : World} {H1 H2 H1' : List Ent} (ha : Here C M (H2 ++ H1) sl a w) (ht : Tr M H1 w M' H1' w') : Here C M' (H2 ++ H1') sl a w' :=
  (((ha.ghost (·.perm List.perm_append_comm)).step (ht.frame (ha.ghost (·.perm List.perm_append_comm)).st)).ghost (·.perm List.perm_append_comm))
theorem Ops.yield {o : Oper} {d l : Nat} {t : Operand} {xs : List Operand} {vs : List Value} {ts : Array TypeId} {H1 H2 : List Ent} {post : Bool → Mem → List Ent → Prop} (ho : o.op = .call { callee := .value t, args := xs.toArray, argTypes := ts }) (hd : o.dst = some d)
    (hg : Yes ops sl o.guard) (hN : Nat.blt d C.N = true) (ht : ev sl t = some (.func (.yield l) #[] #[])) (hx : Evs sl xs vs) (hr : Round C.P l vs M H1 post) (hH : H = H2 ++ H1)
    (k : ∀ b M' H1', Mem.le M M' → post b M' H1' → Ops false C Q ops rest M' (H2 ++ H1') ((d, .bool b) :: sl)) : Ops false C Q ops (o :: rest) M H sl := by
  intro a w ha
  have h1 := hg.wanted ha.env
  simp only [opsW, h1, if_true]
  subst hH
  obtain ⟨fn, tmps, as, bd, hy, hround⟩ := hr w (ha.ghost (·.perm List.perm_append_comm)).st.left
  refine opW_round (run_yieldv ho ht hx ha.ag hy) (hround.mono fun e w' hh => ?_)
  obtain ⟨b, M', H1', he, ht', hq⟩ := hh
  refine ⟨.bool b, he, ?_⟩
  rw [hd]
  exact k b M' H1' ht'.le hq _ _ ((ha.back ht').put d _ (by simpa using hN))
theorem Ops.yield0 {o : Oper} {l : Nat} {t : Operand} {xs : List Operand} {vs : List Value} {ts : Array TypeId} {H1 H2 : List Ent} {post : Bool → Mem → List Ent → Prop} (ho : o.op = .call { callee := .value t, args := xs.toArray, argTypes := ts }) (hd : o.dst = none)
    (hg : Yes ops sl o.guard) (ht : ev sl t = some (.func (.yield l) #[] #[])) (hx : Evs sl xs vs) (hr : Round C.P l vs M H1 post) (hH : H = H2 ++ H1)
    (k : ∀ b M' H1', Mem.le M M' → post b M' H1' → Ops false C Q ops rest M' (H2 ++ H1') sl) : Ops false C Q ops (o :: rest) M H sl := by
  intro a w ha
  have h1 := hg.wanted ha.env
  simp only [opsW, h1, if_true]
  subst hH
  obtain ⟨fn, tmps, as, bd, hy, hround⟩ := hr w (ha.ghost (·.perm List.perm_append_comm)).st.left
  refine opW_round (run_yieldv ho ht hx ha.ag hy) (hround.mono fun e w' hh => ?_)
  obtain ⟨b, M', H1', he, ht', hq⟩ := hh
  refine ⟨.bool b, he, ?_⟩
  rw [hd]
  exact k b M' H1' ht'.le hq _ _ (ha.back ht')
/-- These of the first n entries, in this order; what comes behind them stays. -/
def selT (n : Nat) (H : List Ent) (js : List Nat) : List Ent := Tw.sel (H.take n) js ++ H.drop n
theorem Here.selT {a : Act} {w : World} (n : Nat) (js : List Nat) (hn : js.Nodup) (ha : Here C M H sl a w) : Here C M (Tw.selT n H js) sl a w := by
  have h0 : Here C M (H.take n ++ H.drop n) sl a w := by rw [List.take_append_drop]; exact ha
  exact h0.step (Tr.frame h0.st ((Tr.refl h0.st.left).sel js hn))
theorem Ops.selT {u : Bool} (n : Nat) (js : List Nat) (hn : js.Nodup) (h : Ops u C Q ops rest M (Tw.selT n H js) sl) : Ops u C Q ops rest M H sl := fun a w ha => h a w (ha.selT n js hn)
theorem Ex.selT {x : Exit} (n : Nat) (js : List Nat) (hn : js.Nodup) (h : Ex C Q x M (Tw.selT n H js) sl) : Ex C Q x M H sl := fun a w ha => h a w (ha.selT n js hn)
theorem Lp.selT {c : Code} (n : Nat) (js : List Nat) (hn : js.Nodup) (h : Lp C Q c M (Tw.selT n H js) sl) : Lp C Q c M H sl := fun a w ha => h a w (ha.selT n js hn)
theorem Ex.outA {fn : Func} {x : Exit} {vs : List Value} {v : Value} {rs : List ResultVar} {post : Value → Mem → List Ent → Prop} (hro : C.ro = none) (hx : x = .ret ∨ x = .normal) (hrs : fn.results = rs.toArray) (hr : ResOk C.P M H sl rs vs)
    (hv : tup vs = v) (hp : post v M H) : Ex C (BodyQ C fn (Fin C.M0 C.H0 C.w0 post)) x M H sl :=
  Ex.out H.length hro hx hrs hr hv (by rw [List.take_length]; exact hp)
end

/-! ### The loop -/
def pslots : List Nat → List Value → Slots → Slots
  | p :: ps, v :: vs, l => pslots ps vs ((p, v) :: l)
  | _, _, l => l
theorem Env.pslots {N : Nat} : ∀ {ps : List Nat} {vs : List Value} {l : Slots} {t : Array Value} {ds : List Deferred}, Env N l { tmps := t, defers := ds } → ps.all (Nat.blt · N) = true →
    Env N (Tw.pslots ps vs l) { tmps := (ps.zip vs).foldl (fun t (p, v) => t.setIfInBounds p v) t, defers := [] }
  | [], vs, l, t, ds, h, _ => ⟨h.size, h.get⟩
  | p :: ps, [], l, t, ds, h, _ => ⟨h.size, h.get⟩
  | p :: ps, v :: vs, l, t, ds, h, hp => by
    simp only [List.all_cons, Bool.and_eq_true] at hp
    have := h.put p v (by simpa using hp.1)
    exact Env.pslots (l := (p, v) :: l) (t := t.setIfInBounds p v) (ds := ds) this hp.2

/-- A way out of a round. -/
def outs : Code → Exit → Prop
  | .ret, e => e = .ret
  | .exit id, e => e = .exit id
  | _, _ => False
/-- What a round is to come to: on with the rest (G), or out of the loop. -/
def RoundQ (C C2 : Cx) (Q : Post) (Ho : List Ent) (sl : Slots) (G : Mem → List Ent → Prop) : Post := fun e a w => ∃ M' H', Here C2 M' H' [] a w ∧ match e with
  | .normal => ∃ M0, Mem.le M0 M' ∧ G M0 H'
  | .ret => Ex C Q .ret M' (Ho ++ H') sl
  | .exit id => Ex C Q (.exit id) M' (Ho ++ H') sl
  | _ => False
instance {C C2 : Cx} {Q : Post} {Ho : List Ent} {sl : Slots} {G : Mem → List Ent → Prop} : PQ (RoundQ C C2 Q Ho sl G) := ⟨fun c a w h => by obtain ⟨_, _, _, h⟩ := h; exact h, fun a w h => by obtain ⟨_, _, _, h⟩ := h; exact h⟩
instance {K : Act → World → Prop} : PQ (Exit.then K fun _ _ _ => False) := ⟨fun c a w h => h, fun a w h => h⟩

section
variable {C C2 : Cx} {Q : Post} {Ho H : List Ent} {M : Mem} {sl l : Slots} {G : Mem → List Ent → Prop}
theorem Ex.roundN {M0 : Mem} (hm : Mem.le M0 M) (h : G M0 H) : Ex C2 (RoundQ C C2 Q Ho sl G) .normal M H l := fun a w ha => ⟨M, H, ha.sub trivial, M0, hm, h⟩
theorem Ex.roundR (h : Ex C Q .ret M (Ho ++ H) sl) : Ex C2 (RoundQ C C2 Q Ho sl G) .ret M H l := fun a w ha => ⟨M, H, ha.sub trivial, h⟩
theorem Ex.roundE {id : Nat} (h : Ex C Q (.exit id) M (Ho ++ H) sl) : Ex C2 (RoundQ C C2 Q Ho sl G) (.exit id) M H l := fun a w ha => ⟨M, H, ha.sub trivial, h⟩
end

/-- Where a round's walk stands: ahead of its body (ready), within it (busy). -/
abbrev Cx.round (C : Cx) (lp : Nat) (r r0 : Loop) (M : Mem) (H : List Ent) (w : World) : Cx := ⟨C.P, C.N, some (lp, r), M, H ++ [some (lp, .loop r0)], w⟩
/-- Behind the assignments: the body. -/
theorem Ex.begin {C : Cx} {lp : Nat} {r : Loop} {M0 M : Mem} {H0 H : List Ent} {w0 : World} {l : Slots} {body : Code} {Qb : Post} (hr : r.state = .ready) (h : Cd (C.round lp { r with state := .busy } r M0 H0 w0) Qb body M H l) :
    Ex (C.round lp r r M0 H0 w0) (Exit.then (fun a₁ w₁ => ∃ w₂, (Instr.beginRound lp).run C.P w₁ = .ok () w₂ ∧ body.wpIn (Fence.wide.inRound lp) 0 C.P Qb a₁ w₂) fun _ _ _ => False) .normal M H l := fun a w ha => by
  obtain ⟨X, hx, ht⟩ := ha.out
  obtain ⟨hds, rfl⟩ := hx
  have hh := (ht.st.own lp (.loop r) (by simp)).1
  refine ⟨_, run_beginRound hh hr, ?_⟩
  refine h a _ ⟨ha.env, _, ⟨hds, rfl⟩, ?_⟩
  exact Tr.set (H1 := H) (H2 := []) (o := .loop r) ht ⟨rfl, rfl, rfl⟩ rfl

theorem enter_any {C : Cx} {a : Act} {X H : List Ent} {M : Mem} {w : World} (hside : Side C.ro a.defers X) (ht : Tr C.M0 C.H0 C.w0 M (H ++ X) w) (fn : FuncId) (ps : Array Tmp) (assign body : Code) :
    ∃ lp mark r w1 tl, (Instr.enterLoop fn a.tmps ps assign body C.F.round).run C.P w = .ok (lp, mark) w1 ∧ (r.state = .ready ∧ r.pending = none ∧ r.fn = fn ∧ r.tmps = a.tmps ∧ r.params = ps ∧ r.assign = assign ∧ r.body = body) ∧
      Tr C.M0 C.H0 C.w0 M ((H ++ (some (lp, .loop r) :: tl)) ++ X) w1 ∧ ∀ M' K w', Tr C.M0 C.H0 C.w0 M' ((K ++ tl) ++ X) w' → ∃ X', Side C.ro (mark ++ a.defers) X' ∧ Tr C.M0 C.H0 C.w0 M' (K ++ X') w' := by
  obtain ⟨P, N, ro, M0, H0, w0⟩ := C
  cases ro with
  | none =>
    obtain ⟨D, hd, rfl⟩ := hside
    refine ⟨_, _, { state := .ready, pending := none, fn, tmps := a.tmps, params := ps, assign, body, defers := w.heap.size }, _, [some (w.heap.size, .deferred (some []))], run_enterLoop_outer fn a.tmps ps assign body, ⟨rfl, rfl, rfl, rfl, rfl, rfl, rfl⟩, ?_, fun M' K w' h => ⟨ments (w.heap.size :: D), ⟨w.heap.size :: D, by rw [hd]; rfl, rfl⟩, ?_⟩⟩
    · have h1 := (ht.alloc (.deferred (some []))).alloc (.loop { state := .ready, pending := none, fn, tmps := a.tmps, params := ps, assign, body, defers := w.heap.size })
      rw [World.size_alloc] at h1
      exact h1.perm ((List.perm_append_comm (l₁ := [_, _]) (l₂ := H)).append_right (ments D))
    · rw [List.append_assoc] at h; exact h
  | some lr =>
    obtain ⟨l0, r0⟩ := lr
    obtain ⟨hd, rfl⟩ := hside
    have hh := (ht.st.own l0 (.loop r0) (by simp)).1
    refine ⟨_, _, { state := .ready, pending := none, fn, tmps := a.tmps, params := ps, assign, body, defers := r0.defers }, _, [], run_enterLoop_inner hh fn a.tmps ps assign body, ⟨rfl, rfl, rfl, rfl, rfl, rfl, rfl⟩, ?_, fun M' K w' h => ⟨_, ⟨hd, rfl⟩, by rw [List.append_nil] at h; exact h⟩⟩
    have h1 := ht.alloc (.loop { state := .ready, pending := none, fn, tmps := a.tmps, params := ps, assign, body, defers := r0.defers })
    exact h1.perm ((List.perm_append_comm (l₁ := [_]) (l₂ := H)).append_right _)

theorem loop_back (r : Loop) (h1 : r.state = .ready) (h2 : r.pending = none) : ({ ({ r with state := .busy } : Loop) with state := if (none : Option Code).isNone then .ready else .done, pending := none } : Loop) = r := by
  cases r; simp at h1 h2; subst h1; subst h2; rfl

theorem Cd.rangeF {α : Type} {C : Cx} {Q : Post} {M : Mem} {H : List Ent} {sl : Slots} {gop : Operand} {ps : List Nat} {assign body : Code} {g : FuncId} {cs : List Value} {It : Mem → α → List Value → Prop} {xs : List α} {Hi Ho : List Ent}
    (hg : ev sl gop = some (.func (.func g) #[] cs.toArray)) (hc : CallOk C.P g) (hit : Iter C.P g cs It xs M Hi Ho) (G : List α → Mem → List Ent → Prop) (h0 : G xs M H) (hN : ps.all (Nat.blt · C.N) = true) (hvs : ∀ M x vs, It M x vs → vs.length = ps.length)
    (hbody : ∀ x rest M0 M' Hc vs, Mem.le M0 M' → G (x :: rest) M0 Hc → It M' x vs → ∀ lp r w0, r.state = .ready → Cd (C.round lp r r M' Hc w0)
      (Exit.then (fun a₁ w₁ => ∃ w₂, (Instr.beginRound lp).run C.P w₁ = .ok () w₂ ∧ body.wpIn (Fence.wide.inRound lp) 0 C.P (RoundQ C (C.round lp { r with state := .busy } r M' Hc w0) Q Ho sl (G rest)) a₁ w₂) fun _ _ _ => False) assign M' Hc (pslots ps vs sl))
    (hdone : ∀ M0 M' Hc, Mem.le M0 M' → G [] M0 Hc → Ex C Q .normal M' (Ho ++ Hc) sl) : Cd C Q (.rangeFunc gop ps.toArray assign body) M (Hi ++ H) sl := fun a w ha => by
  refine wpIn_rangeFunc fun fn _ => ?_
  obtain ⟨X, hside, ht⟩ := ha.out
  obtain ⟨lp, mark, r, w1, tl, hent, ⟨e1, e2, e3, e4, e5, e6, e7⟩, ht1, hback⟩ := enter_any hside ht fn ps.toArray assign body
  have hgv := ha.ag _ _ hg
  refine ⟨lp, mark, w1, { target := .fn (.func g) cs.toArray, args := #[.func (.yield lp) #[] #[]] }, w1, g, (.func (.yield lp) #[] #[] :: cs).toArray, w1, hent, ?_, fun _ _ => fn_wide C _, ?_, fun he => (by simp [Cx.F, Fence.wide] at he), ?_⟩
  · have hcv : a.eval (.const (.func (.yield lp) #[] #[])) = .func (.yield lp) #[] #[] := rfl
    simp [resolve, hgv, hcv, Deferred.ofValue]
  · simp [invoke, Sem.run_bind, run_callFunc hc]
  · have hs1 : St M (Hi ++ (H ++ (some (lp, .loop r) :: tl))) w1 := by
      have := ht1.st.left
      rwa [List.append_assoc] at this
    obtain ⟨J, hJ⟩ : ∃ J : List α → Mem → List Ent → Prop, J = fun rest Mx Hx => ∃ M0 Hc, Mem.le M0 Mx ∧ Hx = Hc ++ (some (lp, .loop r) :: tl) ∧ G rest M0 Hc := ⟨_, rfl⟩
    obtain ⟨S, hS⟩ : ∃ S : Mem → List Ent → Prop, S = fun Mx Hx => ∃ Hc c e, Hx = Hc ++ (some (lp, .loop { ({ r with state := .busy } : Loop) with state := .done, pending := some c }) :: tl) ∧ outs c e ∧ Ex C Q e Mx (Ho ++ Hc) sl := ⟨_, rfl⟩
    have hdoes := hit lp J S (H ++ (some (lp, .loop r) :: tl)) (fun x rest M0 M' H' vs hle hj hi => ?_) (by rw [hJ]; exact ⟨M, H, Mem.le_refl _, rfl, h0⟩)
    · refine CallsIn.mono (callsIn_any (hdoes w1 hs1)) fun e w' hh => ?_
      obtain ⟨v, M', H', rfl, htc, H0, rfl, hend⟩ := hh
      have ht2 : Tr C.M0 C.H0 C.w0 M' ((Ho ++ H0) ++ X) w' := by
        have h1 := ht1
        rw [List.append_assoc Hi H] at h1
        exact h1.trans (htc.frame h1.st)
      rcases hend with ⟨M0, hm, hj⟩ | hs
      · rw [hJ] at hj
        obtain ⟨M00, Hc, hm0, rfl, hG⟩ := hj
        have hh := (ht2.st.own lp (.loop r) (by simp)).1
        have hrun := run_endLoop (P := C.P) hh (by rw [e1]; simp)
        obtain ⟨rx, hrx⟩ : ∃ rx : Loop, rx = { r with state := .exhausted } := ⟨_, rfl⟩
        rw [← hrx, e2] at hrun
        refine ⟨none, _, hrun, ?_⟩
        refine hdone M00 M' Hc (Mem.le_trans hm0 hm) hG _ _ ⟨⟨ha.env.size, ha.env.get⟩, ?_⟩
        have h3 : Tr C.M0 C.H0 C.w0 M' ((Ho ++ Hc) ++ some (lp, .loop r) :: (tl ++ X)) w' := by simpa [List.append_assoc] using ht2
        have h4 := (Tr.set (w' := w'.putObj lp (.loop rx)) (o' := .loop rx) h3 ⟨rfl, rfl, rfl⟩ rfl).perm List.perm_middle
        exact hback M' (Ho ++ Hc) _ (by simpa [List.append_assoc] using h4.drop)
      · rw [hS] at hs
        obtain ⟨Hc, c, e, rfl, hc, hex⟩ := hs
        have hh := (ht2.st.own lp (.loop { ({ r with state := .busy } : Loop) with state := .done, pending := some c }) (by simp)).1
        refine ⟨_, _, run_endLoop hh (by simp), ?_⟩
        have h3 : Tr C.M0 C.H0 C.w0 M' ((Ho ++ Hc) ++ some (lp, .loop { ({ r with state := .busy } : Loop) with state := .done, pending := some c }) :: (tl ++ X)) w' := by simpa [List.append_assoc] using ht2
        obtain ⟨r', hr'⟩ : ∃ r' : Loop, r' = { ({ ({ r with state := .busy } : Loop) with state := .done, pending := some c } : Loop) with state := .exhausted } := ⟨_, rfl⟩
        have h4 := (Tr.set (w' := w'.putObj lp (.loop r')) (o' := .loop r') h3 ⟨rfl, rfl, rfl⟩ rfl).perm List.perm_middle
        obtain ⟨X', hx', h5⟩ := hback M' (Ho ++ Hc) _ (by simpa [List.append_assoc] using h4.drop)
        have hq := hex { a with defers := mark ++ a.defers } _ ⟨⟨ha.env.size, ha.env.get⟩, X', hx', h5⟩
        rw [hr'] at hq
        cases c <;> simp only [outs] at hc <;> first
          | exact hc.elim
          | (subst hc; exact wpIn_ret hq)
          | (subst hc; exact wpIn_exit hq)
    · -- a round
      rw [hJ] at hj
      obtain ⟨M00, Hc, hm0, rfl, hG⟩ := hj
      intro wr hsr
      have hh := (hsr.own lp (.loop r) (by simp)).1
      have hvl := hvs M' x vs hi
      refine ⟨r.fn, _, r.assign, r.body, run_yield hh (by simp [e5, hvl]), ?_⟩
      have hb := hbody x rest M00 M' Hc vs (Mem.le_trans hm0 hle) hG hi lp r wr e1
      have hst : St M' (Hc ++ [some (lp, .loop r)]) wr := by
        have : St M' ((Hc ++ [some (lp, .loop r)]) ++ tl) wr := by simpa [List.append_assoc] using hsr
        exact this.left
      have henv : Env C.N (pslots ps vs sl) { tmps := (r.params.zip vs.toArray).foldl (fun t (p, v) => t.setIfInBounds p v) r.tmps, defers := [] } := by
        have := Env.pslots (ps := ps) (vs := vs) (l := sl) (t := a.tmps) (ds := a.defers) ha.env hN
        rw [e5, e4]
        simpa using this
      have hw := hb _ wr ⟨henv, _, ⟨rfl, rfl⟩, Tr.refl hst⟩
      rw [e6, e7]
      refine roundIn_of_wpIn (F := Fence.wide) trivial (wpIn_mono hw fun e a1 w2 hq => ?_)
      cases e with
      | normal =>
        obtain ⟨w3, hbr, hbw⟩ := hq
        refine ⟨w3, hbr, wpIn_mono hbw fun e a4 w4 hq => ?_⟩
        obtain ⟨M2, H2, ⟨_, X2, ⟨_, rfl⟩, ht4⟩, hq⟩ := hq
        have hh4 := (ht4.st.own lp _ (by simp : some (lp, Obj.loop { r with state := .busy }) ∈ _)).1
        have hset : ∀ r', Tr M' (Hc ++ (some (lp, .loop r) :: tl)) wr M2 (H2 ++ (some (lp, .loop r') :: tl)) (w4.putObj lp (.loop r')) := fun r' => by
          have h5 : Tr M' (Hc ++ [some (lp, .loop r)]) wr M2 (H2 ++ some (lp, .loop r') :: []) (w4.putObj lp (.loop r')) := Tr.set (H1 := H2) (H2 := []) ht4 ⟨rfl, rfl, rfl⟩ rfl
          have h6 := h5.frame (H2 := tl) (by simpa [List.append_assoc] using hsr)
          simpa [List.append_assoc] using h6
        cases e with
        | normal =>
          obtain ⟨M0', hm', hg'⟩ := hq
          have hrun := run_endRound (P := C.P) none hh4
          rw [loop_back r e1 e2] at hrun
          exact ⟨_, _, hrun, true, M2, _, rfl, hset r, .inl ⟨rfl, by rw [hJ]; exact ⟨M0', H2, hm', rfl, hg'⟩⟩⟩
        | ret => exact ⟨_, _, run_endRound (P := C.P) (some .ret) hh4, false, M2, _, rfl, hset _, .inr ⟨rfl, by rw [hS]; exact ⟨H2, .ret, .ret, rfl, rfl, hq⟩⟩⟩
        | exit id => exact ⟨_, _, run_endRound (P := C.P) (some (.exit id)) hh4, false, M2, _, rfl, hset _, .inr ⟨rfl, by rw [hS]; exact ⟨H2, .exit id, .exit id, rfl, rfl, hq⟩⟩⟩
        | goto t => exact hq.elim
        | panic c => exact hq.elim
        | outgrown => exact hq.elim
      | _ => exact hq.elim
end Go.Proofs.Ytjbfolnnepjidaa.Tw
