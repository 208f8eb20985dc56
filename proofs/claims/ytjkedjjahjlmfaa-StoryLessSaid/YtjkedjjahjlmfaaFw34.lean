/- Steps, in a form that a simplifier takes without going ahead of itself. -/
import Derived.Test.YtjkedjjahjlmfaaFw33
namespace Go.Dn
set_option linter.unusedVariables false
set_option linter.unusedSimpArgs false

variable {K : CallP} {cx : Cx}

def thenQ (K : CallP) (cx : Cx) (b : C) (Q : PostC) : PostC := fun ex e' σ' => match ex with
  | .normal => wcode K cx b e' σ' Q
  | x => Q x e' σ'
def blkQ (id : Nat) (Q : PostC) : PostC := fun ex e' σ' => match ex with
  | .exit j => if j = id then Q .normal e' σ' else Q (.exit j) e' σ'
  | x => Q x e' σ'
def opsQ (ks : List Nat) (Q : PostC) : Env → St → Prop := fun e σ => Q .normal (e.pick ks) σ
def contQ (K : CallP) (cx : Cx) (r : List Ins) (e : Env) (dst : Option Nat) (Q : Env → St → Prop) : Post := fun v σ => wins K cx r (putE e dst v) σ Q
def endQ (m : Mode) (σ0 : St) (rs : List Res) (Q : Post) : PostC := fun ex e s => match ex with
  | .exit _ => False
  | _ => ∃ v, retV m σ0.objs.length e s rs = some v ∧ (m = .rd → Keeps σ0 s) ∧ Q v s

theorem body_eq {m : Mode} {fc : FnC} {vs : List V} {σ : St} {Q : Post} : bodyP K cx m fc vs σ Q = (vs.length = fc.nparams ∧ wcode K cx fc.body (initEnv 0 vs) σ (endQ m σ fc.res Q)) := rfl
theorem w_skip {e : Env} {σ : St} {Q : PostC} : wcode K cx .skip e σ Q = Q .normal e σ := rfl
theorem w_ops {ks : List Nat} {l : List Ins} {e : Env} {σ : St} {Q : PostC} : wcode K cx (.ops ks l) e σ Q = wins K cx l e σ (opsQ ks Q) := rfl
theorem w_seq {a b : C} {e : Env} {σ : St} {Q : PostC} : wcode K cx (.seq a b) e σ Q = wcode K cx a e σ (thenQ K cx b Q) := rfl
theorem w_cond {c : Opd} {a b : C} {e : Env} {σ : St} {Q : PostC} : wcode K cx (.cond c a b) e σ Q = (match c.ev e with
  | .d (.bool t) => if t = true then wcode K cx a e σ Q else wcode K cx b e σ Q
  | _ => False) := rfl
theorem w_block {id : Nat} {c : C} {e : Env} {σ : St} {Q : PostC} : wcode K cx (.block id c) e σ Q = wcode K cx c e σ (blkQ id Q) := rfl
theorem w_exit {id : Nat} {e : Env} {σ : St} {Q : PostC} : wcode K cx (.exit id) e σ Q = Q (.exit id) e σ := rfl
theorem w_ret {e : Env} {σ : St} {Q : PostC} : wcode K cx .ret e σ Q = Q .ret e σ := rfl

theorem q_then_n {b : C} {Q : PostC} {e : Env} {σ : St} : thenQ K cx b Q .normal e σ = wcode K cx b e σ Q := rfl
theorem q_then_e {b : C} {Q : PostC} {id : Nat} {e : Env} {σ : St} : thenQ K cx b Q (.exit id) e σ = Q (.exit id) e σ := rfl
theorem q_then_r {b : C} {Q : PostC} {e : Env} {σ : St} : thenQ K cx b Q .ret e σ = Q .ret e σ := rfl
theorem q_blk_n {id : Nat} {Q : PostC} {e : Env} {σ : St} : blkQ id Q .normal e σ = Q .normal e σ := rfl
theorem q_blk_e {id j : Nat} {Q : PostC} {e : Env} {σ : St} : blkQ id Q (.exit j) e σ = if j = id then Q .normal e σ else Q (.exit j) e σ := rfl
theorem q_blk_r {id : Nat} {Q : PostC} {e : Env} {σ : St} : blkQ id Q .ret e σ = Q .ret e σ := rfl
theorem q_ops {ks : List Nat} {Q : PostC} {e : Env} {σ : St} : opsQ ks Q e σ = Q .normal (e.pick ks) σ := rfl
theorem q_cont {r : List Ins} {e : Env} {dst : Option Nat} {Q : Env → St → Prop} {v : V} {σ : St} : contQ K cx r e dst Q v σ = wins K cx r (putE e dst v) σ Q := rfl
theorem q_end_n {m : Mode} {σ0 : St} {rs : List Res} {Q : Post} {e : Env} {σ : St} : endQ m σ0 rs Q .normal e σ = ∃ v, retV m σ0.objs.length e σ rs = some v ∧ (m = .rd → Keeps σ0 σ) ∧ Q v σ := rfl
theorem q_end_r {m : Mode} {σ0 : St} {rs : List Res} {Q : Post} {e : Env} {σ : St} : endQ m σ0 rs Q .ret e σ = ∃ v, retV m σ0.objs.length e σ rs = some v ∧ (m = .rd → Keeps σ0 σ) ∧ Q v σ := rfl
theorem q_end_e {m : Mode} {σ0 : St} {rs : List Res} {Q : Post} {id : Nat} {e : Env} {σ : St} : endQ m σ0 rs Q (.exit id) e σ = False := rfl

theorem i_nil {e : Env} {σ : St} {Q : Env → St → Prop} : wins K cx [] e σ Q = Q e σ := rfl
theorem i_p {dst : Option Nat} {op : POp} {r : List Ins} {e : Env} {σ : St} {Q : Env → St → Prop} : wins K cx (.p dst op :: r) e σ Q = (match evalP op e σ with
  | some v => wins K cx r (putE e dst v) σ Q
  | none => False) := rfl
theorem i_alloc {dst : Option Nat} {z : List V} {r : List Ins} {e : Env} {σ : St} {Q : Env → St → Prop} : wins K cx (.e dst (.alloc z) :: r) e σ Q = (match evalE (.alloc z) e σ none with
  | some (v, σ') => wins K cx r (putE e dst v) σ' Q
  | none => False) := by
  simp only [wins, wone, evalM, or_false]
  rfl
theorem i_box {dst : Option Nat} {x : Opd} {r : List Ins} {e : Env} {σ : St} {Q : Env → St → Prop} : wins K cx (.e dst (.box x) :: r) e σ Q = (match evalE (.box x) e σ none with
  | some (v, σ') => wins K cx r (putE e dst v) σ' Q
  | none => False) := by
  simp only [wins, wone, evalM, or_false]
  rfl
theorem i_store {dst : Option Nat} {n : Nat} {a x : Opd} {r : List Ins} {e : Env} {σ : St} {Q : Env → St → Prop} : wins K cx (.e dst (.store n a x) :: r) e σ Q = (match evalE (.store n a x) e σ none with
  | some (v, σ') => wins K cx r (putE e dst v) σ' Q
  | none => False) := by
  simp only [wins, wone, evalM, or_false]
  rfl
theorem i_copy {dst : Option Nat} {sz : Nat} {a x : Opd} {r : List Ins} {e : Env} {σ : St} {Q : Env → St → Prop} : wins K cx (.e dst (.copy sz a x) :: r) e σ Q = (match evalE (.copy sz a x) e σ none with
  | some (v, σ') => wins K cx r (putE e dst v) σ' Q
  | none => False) := by
  simp only [wins, wone, evalM, or_false]
  rfl
theorem i_clear {dst : Option Nat} {sz : Nat} {z : List D} {a : Opd} {r : List Ins} {e : Env} {σ : St} {Q : Env → St → Prop} : wins K cx (.e dst (.clear sz z a) :: r) e σ Q = (match evalE (.clear sz z a) e σ none with
  | some (v, σ') => wins K cx r (putE e dst v) σ' Q
  | none => False) := by
  simp only [wins, wone, evalM, or_false]
  rfl
/-- append, into a list that stays as it is. -/
theorem i_app_f {dst : Option Nat} {op : EOp} {r : List Ins} {e : Env} {σ : St} {Q : Env → St → Prop} {v : V} {s : St} (h : evalE op e σ none = some (v, s)) (hq : wins K cx r (putE e dst v) s Q) : wins K cx (.e dst op :: r) e σ Q := by
  simp only [wins, wone]
  left
  rw [h]
  exact hq
/-- append, into an object that may be written. -/
theorem i_app_m {dst : Option Nat} {op : EOp} {r : List Ins} {e : Env} {σ : St} {Q : Env → St → Prop} {v : V} {s : St} (h : evalM op e σ none = some (v, s)) (hq : wins K cx r (putE e dst v) s Q) : wins K cx (.e dst op :: r) e σ Q := by
  simp only [wins, wone]
  right
  rw [h]
  exact hq
theorem i_callv {dst : Option Nat} {f : Opd} {args : List Opd} {r : List Ins} {e : Env} {σ : St} {Q : Env → St → Prop} : wins K cx (.callv dst f args :: r) e σ Q = (match f.ev e with
  | .fn (.func g) first caps => callK K cx g (first ++ args.map (Opd.ev e) ++ caps) σ (contQ K cx r e dst Q)
  | _ => False) := rfl
theorem i_call {dst : Option Nat} {f : Nat} {args : List Opd} {r : List Ins} {e : Env} {σ : St} {Q : Env → St → Prop} : wins K cx (.call dst f args :: r) e σ Q = callK K cx f (args.map (Opd.ev e)) σ (contQ K cx r e dst Q) := rfl

theorem wins_app {Q : Env → St → Prop} : ∀ (a b : List Ins) (e : Env) (σ : St), wins K cx (a ++ b) e σ Q = wins K cx a e σ fun e' σ' => wins K cx b e' σ' Q
  | [], b, e, σ => rfl
  | i :: a, b, e, σ => by
    simp only [List.cons_append, wins]
    congr 1
    funext e' σ'
    exact wins_app a b e' σ'

theorem i_when {s : Nat} {want : Bool} {body r : List Ins} {e : Env} {σ : St} {Q : Env → St → Prop} : wins K cx (.when s want body :: r) e σ Q = (match e.get s with
  | .d (.bool b) => if b = want then wins K cx (body ++ r) e σ Q else wins K cx r (goneAll body e) σ Q
  | .gone => wins K cx r (goneAll body e) σ Q
  | _ => False) := by
  simp only [wins, wone, wins_app]
  generalize e.get s = x
  cases x <;> first | rfl | (rename_i d; cases d <;> rfl)

/-- What a round leaves: less to do, or an end. -/
def loopQ (I : Nat → Env → St → Prop) (m : Nat) (ks : List Nat) (Q : PostC) : PostC := fun ex e' σ' => match ex with
  | .normal => ∃ m', m' < m ∧ I m' (e'.pick ks) σ'
  | x => Q x e' σ'
theorem q_loop_n {I : Nat → Env → St → Prop} {m : Nat} {ks : List Nat} {Q : PostC} {e : Env} {σ : St} : loopQ I m ks Q .normal e σ = ∃ m', m' < m ∧ I m' (e.pick ks) σ := rfl
theorem q_loop_e {I : Nat → Env → St → Prop} {m : Nat} {ks : List Nat} {Q : PostC} {id : Nat} {e : Env} {σ : St} : loopQ I m ks Q (.exit id) e σ = Q (.exit id) e σ := rfl
theorem q_loop_r {I : Nat → Env → St → Prop} {m : Nat} {ks : List Nat} {Q : PostC} {e : Env} {σ : St} : loopQ I m ks Q .ret e σ = Q .ret e σ := rfl
theorem wloopI {ks : List Nat} {c : C} {e : Env} {σ : St} {Q : PostC} (I : Nat → Env → St → Prop) {m : Nat} (h0 : I m (e.pick ks) σ) (hs : ∀ m e σ, I m e σ → wcode K cx c e σ (loopQ I m ks Q)) : wcode K cx (.loop ks c) e σ Q :=
  wloop I h0 hs

/-! regions that draw, in the order of the text -/

def tcontQ (K : CallP) (cx : Cx) (n0 : Nat) (ks : List Nat) (r : List DOp) (e : Env) (dst : Option Nat) (Q : Env → St → Prop) : Post := fun v s => wtx K cx n0 ks r (putE e dst v) s Q

/-- A call in a region that draws: with a result. -/
def callN (K : CallP) (cx : Cx) (n0 : Nat) (ks : List Nat) (e : Env) (f : Nat) (vs : List V) (σ : St) (Q : Post) : Prop :=
  match cx.mode f with
  | .raw => ∃ Q', K .raw f vs σ Q' ∧ (∃ v s, Q' v s) ∧ ∀ v s, Q' v s → Kept ks e σ s ∧ Q v s
  | .val => match byVals σ vs with
    | some ds => ∃ Q', K .val f ds St.empty Q' ∧ (∃ v s, Q' v s) ∧ ∀ v s, Q' v s → v.pure = true ∧ (vs.any V.borrows = true → v.scalars = true) ∧ Q v σ
    | none => False
  | .rd => ∀ σ1, Agr n0 σ σ1 → ∃ Q', K .rd f vs σ1 Q' ∧ (∃ v s, Q' v s) ∧ ∀ v s, Q' v s → Q v σ

theorem t_nil {n0 : Nat} {ks : List Nat} {e : Env} {σ : St} {Q : Env → St → Prop} : wtx K cx n0 ks [] e σ Q = Q e σ := rfl

theorem t_p {n0 : Nat} {ks : List Nat} {gd : Option (Nat × Bool)} {dst : Option Nat} {op : POp} {af : List Nat} {al : Nat} {r : List DOp} {e : Env} {σ : St} {Q : Env → St → Prop} : wtx K cx n0 ks (⟨gd, .p dst op, af, al⟩ :: r) e σ Q = ((∀ s ∈ cx.dry, s ∈ DOp.reads ⟨gd, .p dst op, af, al⟩ → dref (e.get s) = []) ∧ (match gsel gd e with
  | some true => (match evalP op e σ with
    | some v => wtx K cx n0 ks r (putE e dst v) σ Q
    | none => False)
  | some false => wtx K cx n0 ks r (putE e dst .gone) σ Q
  | none => False)) := by
  simp only [wtx, Adm, Dry, DOp.isP, Adm0, true_implies]
  rfl
theorem t_call {n0 : Nat} {ks : List Nat} {gd : Option (Nat × Bool)} {dst : Option Nat} {f : Nat} {args : List Opd} {af : List Nat} {al : Nat} {r : List DOp} {e : Env} {σ : St} {Q : Env → St → Prop} : wtx K cx n0 ks (⟨gd, .call dst f args, af, al⟩ :: r) e σ Q = (match gsel gd e with
  | some true => callN K cx n0 ks e f (args.map (Opd.ev e)) σ (tcontQ K cx n0 ks r e dst Q)
  | some false => wtx K cx n0 ks r (putE e dst .gone) σ Q
  | none => False) := by
  simp only [wtx, Adm, Dry, DOp.isP, Bool.false_eq_true, false_implies, true_and, Adm0, DOp.isN, Ins.dst]
  cases hm : cx.mode f with
  | raw => simp only [AdmX, xGo, xCall, callN, hm]; rfl
  | val => simp only [AdmN, nGo, callN, hm]; rfl
  | rd => simp only [AdmN, nGo, callN, hm]; rfl
theorem t_alloc {n0 : Nat} {ks : List Nat} {gd : Option (Nat × Bool)} {dst : Option Nat} {z : List V} {af : List Nat} {al : Nat} {r : List DOp} {e : Env} {σ : St} {Q : Env → St → Prop} : wtx K cx n0 ks (⟨gd, .e dst (.alloc z), af, al⟩ :: r) e σ Q = (match gsel gd e with
  | some true => (match evalE (.alloc z) e σ (some (n0 + al)) with
    | some (v, s) => wtx K cx n0 ks r (putE e dst v) s Q
    | none => False)
  | some false => wtx K cx n0 ks r (putE e dst .gone) σ Q
  | none => False) := by
  simp only [wtx, Adm, Dry, DOp.isP, Bool.false_eq_true, false_implies, true_and, Adm0, DOp.isN, AdmX, xGo, evalM, or_false, Ins.dst, EOp.isStore, Bool.false_eq_true, false_implies, true_and]
  rfl
theorem t_box {n0 : Nat} {ks : List Nat} {gd : Option (Nat × Bool)} {dst : Option Nat} {x : Opd} {af : List Nat} {al : Nat} {r : List DOp} {e : Env} {σ : St} {Q : Env → St → Prop} : wtx K cx n0 ks (⟨gd, .e dst (.box x), af, al⟩ :: r) e σ Q = (match gsel gd e with
  | some true => (match evalE (.box x) e σ (some (n0 + al)) with
    | some (v, s) => wtx K cx n0 ks r (putE e dst v) s Q
    | none => False)
  | some false => wtx K cx n0 ks r (putE e dst .gone) σ Q
  | none => False) := by
  simp only [wtx, Adm, Dry, DOp.isP, Bool.false_eq_true, false_implies, true_and, Adm0, DOp.isN, AdmX, xGo, evalM, or_false, Ins.dst, EOp.isStore, Bool.false_eq_true, false_implies, true_and]
  rfl
theorem kept_nil {e : Env} {σ s : St} : Kept [] e σ s = True := by simp [Kept]
theorem t_store {n0 : Nat} {ks : List Nat} {gd : Option (Nat × Bool)} {dst : Option Nat} {n : Nat} {a x : Opd} {af : List Nat} {al : Nat} {r : List DOp} {e : Env} {σ : St} {Q : Env → St → Prop} : wtx K cx n0 ks (⟨gd, .e dst (.store n a x), af, al⟩ :: r) e σ Q = (match gsel gd e with
  | some true => (match evalE (.store n a x) e σ (some (n0 + al)) with
    | some (v, s) => Kept ks e σ s ∧ wtx K cx n0 ks r (putE e dst v) s Q
    | none => False)
  | some false => wtx K cx n0 ks r (putE e dst .gone) σ Q
  | none => False) := by
  simp only [wtx, Adm, Dry, DOp.isP, Bool.false_eq_true, false_implies, true_and, Adm0, DOp.isN, AdmX, xGo, evalM, or_false, Ins.dst, EOp.isStore, forall_const]
  rfl
theorem t_copy {n0 : Nat} {ks : List Nat} {gd : Option (Nat × Bool)} {dst : Option Nat} {sz : Nat} {a x : Opd} {af : List Nat} {al : Nat} {r : List DOp} {e : Env} {σ : St} {Q : Env → St → Prop} : wtx K cx n0 ks (⟨gd, .e dst (.copy sz a x), af, al⟩ :: r) e σ Q = (match gsel gd e with
  | some true => (match evalE (.copy sz a x) e σ (some (n0 + al)) with
    | some (v, s) => wtx K cx n0 ks r (putE e dst v) s Q
    | none => False)
  | some false => wtx K cx n0 ks r (putE e dst .gone) σ Q
  | none => False) := by
  simp only [wtx, Adm, Dry, DOp.isP, Bool.false_eq_true, false_implies, true_and, Adm0, DOp.isN, AdmX, xGo, evalM, or_false, Ins.dst, EOp.isStore, Bool.false_eq_true, false_implies, true_and]
  rfl
theorem t_clear {n0 : Nat} {ks : List Nat} {gd : Option (Nat × Bool)} {dst : Option Nat} {sz : Nat} {z : List D} {a : Opd} {af : List Nat} {al : Nat} {r : List DOp} {e : Env} {σ : St} {Q : Env → St → Prop} : wtx K cx n0 ks (⟨gd, .e dst (.clear sz z a), af, al⟩ :: r) e σ Q = (match gsel gd e with
  | some true => (match evalE (.clear sz z a) e σ (some (n0 + al)) with
    | some (v, s) => wtx K cx n0 ks r (putE e dst v) s Q
    | none => False)
  | some false => wtx K cx n0 ks r (putE e dst .gone) σ Q
  | none => False) := by
  simp only [wtx, Adm, Dry, DOp.isP, Bool.false_eq_true, false_implies, true_and, Adm0, DOp.isN, AdmX, xGo, evalM, or_false, Ins.dst, EOp.isStore, Bool.false_eq_true, false_implies, true_and]
  rfl
theorem t_app_f {n0 : Nat} {ks : List Nat} {dst : Option Nat} {op : EOp} {af : List Nat} {al : Nat} {r : List DOp} {e : Env} {σ : St} {Q : Env → St → Prop} {v : V} {s : St} (h : evalE op e σ (some (n0 + al)) = some (v, s)) (hq : wtx K cx n0 ks r (putE e dst v) s Q) (hs : op.isStore = false := by rfl) : wtx K cx n0 ks (⟨none, .e dst op, af, al⟩ :: r) e σ Q := by
  simp only [wtx, Adm, Dry, DOp.isP, Bool.false_eq_true, false_implies, true_and, Adm0, DOp.isN, AdmX, gsel, xGo, Ins.dst]
  left
  rw [h]
  exact ⟨(fun h => by rw [hs] at h; cases h), hq⟩
theorem t_app_m {n0 : Nat} {ks : List Nat} {dst : Option Nat} {op : EOp} {af : List Nat} {al : Nat} {r : List DOp} {e : Env} {σ : St} {Q : Env → St → Prop} {v : V} {s : St} (h : evalM op e σ (some (n0 + al)) = some (v, s)) (hq : wtx K cx n0 ks r (putE e dst v) s Q) : wtx K cx n0 ks (⟨none, .e dst op, af, al⟩ :: r) e σ Q := by
  simp only [wtx, Adm, Dry, DOp.isP, Bool.false_eq_true, false_implies, true_and, Adm0, DOp.isN, AdmX, gsel, xGo, Ins.dst]
  right
  rw [h]
  exact hq
theorem q_tcont {n0 : Nat} {ks : List Nat} {r : List DOp} {e : Env} {dst : Option Nat} {Q : Env → St → Prop} {v : V} {σ : St} : tcontQ K cx n0 ks r e dst Q v σ = wtx K cx n0 ks r (putE e dst v) σ Q := rfl

theorem use_fnN {cx0 : Cx} {Γ : Nat → Option FnC} {n0 : Nat} {ks : List Nat} {e : Env} {f : Nat} (hm : cx.mode f = .val) {vs ds : List V} {σ : St} (hds : byVals σ vs = some ds) {r : V} (h : Call Γ cx0 .val f ds St.empty fun v _ => v = r) (hp : (r.pure && (!vs.any V.borrows || r.scalars)) = true) {Q : Post} (hq : Q r σ) :
    callN (Call Γ cx0) cx n0 ks e f vs σ Q := by
  simp only [Bool.and_eq_true, Bool.or_eq_true, Bool.not_eq_true'] at hp
  unfold callN
  rw [hm]
  simp only
  rw [hds]
  exact ⟨_, h, ⟨r, St.empty, rfl⟩, fun v s hv => by
    subst hv
    exact ⟨hp.1, fun hb => hp.2.resolve_left (by simp [hb]), hq⟩⟩
theorem use_rdN {cx0 : Cx} {Γ : Nat → Option FnC} {n0 : Nat} {ks : List Nat} {e : Env} {f : Nat} (hm : cx.mode f = .rd) {vs : List V} {σ : St} {r : V} (h : ∀ σ1, Agr n0 σ σ1 → Call Γ cx0 .rd f vs σ1 fun v _ => v = r) {Q : Post} (hq : Q r σ) : callN (Call Γ cx0) cx n0 ks e f vs σ Q := by
  unfold callN
  rw [hm]
  exact fun σ1 h1 => ⟨_, h σ1 h1, ⟨r, St.empty, rfl⟩, fun v s hv => by subst hv; exact hq⟩
theorem use_rawN {cx0 : Cx} {Γ : Nat → Option FnC} {n0 : Nat} {ks : List Nat} {e : Env} {f : Nat} (hm : cx.mode f = .raw) {vs : List V} {σ : St} {Q' : Post} (h : Call Γ cx0 .raw f vs σ Q') (hex : ∃ v s, Q' v s) {Q : Post} (hq : ∀ v s, Q' v s → Kept ks e σ s ∧ Q v s) : callN (Call Γ cx0) cx n0 ks e f vs σ Q := by
  unfold callN
  rw [hm]
  exact ⟨_, h, hex, hq⟩

/-- A drawing region, in the order of its text; `md`: the modes in which it calls; `ks`: the slots of the objects that calls must leave alone. -/
theorem w_drwD (md : Nat → Mode) (dr kl : List Nat) {ks : List Nat} {na : Nat} {l : List DOp} (hC : (drwOk md dr l && keepOf dr l == kl) = true) {e : Env} {σ : St} {Q : PostC} (h : wtx K { mode := md, dry := dr } σ.objs.length kl l e (σ.room na) (opsQ ks Q)) : wcode K cx (.drw ks na l) e σ Q := by
  simp only [Bool.and_eq_true, beq_iff_eq] at hC
  refine wdrw (cx := { mode := md, dry := dr }) hC.1 ?_
  rw [hC.2]
  exact h
/-- The same, where no slot need be dry. -/
theorem w_drw (md : Nat → Mode) (kl : List Nat) {ks : List Nat} {na : Nat} {l : List DOp} (hC : (drwOk md [] l && keepOf [] l == kl) = true) {e : Env} {σ : St} {Q : PostC} (h : wtx K { mode := md } σ.objs.length kl l e (σ.room na) (opsQ ks Q)) : wcode K cx (.drw ks na l) e σ Q :=
  w_drwD md [] kl hC h

end Go.Dn
