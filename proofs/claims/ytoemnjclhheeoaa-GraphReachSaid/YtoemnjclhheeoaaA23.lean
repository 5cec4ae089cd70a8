/- The abstract interpreter: from what it tells of a law to the law's row. No condition. -/
import Derived.Test.YtoemnjclhheeoaaA22
import Derived.WalkKit
import Derived.ProofKit
import Derived.ShutString
import Derived.ChangeOld
import Derived.Below
namespace Go.Ai
open Go.ChangeShapes Go.WideShapes Go.ChangeAt Go.RowKit
set_option linter.unusedVariables false
set_option linter.unusedSimpArgs false
set_option linter.unusedSectionVars false

/-- What is told of a call from outside. -/
theorem law_calls {P : Program} {T : FuncId → Option F} {ov : Ov} {mt : MtF} {md : FuncId → Md} (L : Linked P T ov mt) {f : FuncId} {FF : F} (hT : T f = some FF) {k : Nat} {as : List AV} {H' : List AO}
    (h : call T ov mt md k f as [] = some (.ret (litB true), H')) {W : World} {args : Array Value} (V : FVs (fun b => b < W.heap.size) W as args.toList) :
    Calls P f args W fun e W' => e = .returned (.bool true) ∧ Below W.heap.size W W' := by
  let g : G := ⟨fun b => b < W.heap.size, fun _ => False, fun _ => 0, fun _ => 0⟩
  have R : Rel g W [] := ⟨fun b h => h, fun r cs t h => by simp at h, fun r r' h => by obtain ⟨_, _, h⟩ := h; simp at h, fun r h => h.elim, fun r h => by obtain ⟨_, _, h⟩ := h; simp at h⟩
  have V' : VRs g W as args.toList := ⟨V.1, fun i a v ha hv => .fv _ _ (V.2 i a v ha hv)⟩
  obtain ⟨fn, A, hfn, hF⟩ := L.tab f FF hT
  unfold compF at hF
  obtain ⟨c0, hb, hF⟩ := Option.bind_eq_some_iff.1 hF
  obtain ⟨c, hc, hF⟩ := Option.bind_eq_some_iff.1 hF
  obtain ⟨rs, hr, hF⟩ := Option.bind_eq_some_iff.1 hF
  by_cases hle : fn.params.size + fn.nfree ≤ fn.ntmps ∧ (fn.name == "runtime.NumGoroutine") = false
  case neg => rw [if_neg hle] at hF; cases hF
  have en := enters hfn hle.2 hb args W
  rcases call_sound L k f as [] _ H' h W g args R V' with ⟨_, h2⟩ | ⟨v, w', h1, _⟩
  · refine h2.mono fun e W' ⟨g', _, st, v, he, hv⟩ => ?_
    have := hv.lit_inv
    subst this
    exact ⟨he, st.os, st.tape, st.output, st.size, fun b hb => st.keep b hb fun r hr => by obtain ⟨_, _, hr⟩ := hr; simp at hr⟩
  · rw [en] at h1; cases h1

/-- All arguments. -/
def argsSh (P : Program) : List TypeId → List Ty → List AV → Prop
  | [], [], [] => True
  | t :: ts, τ :: τs, a :: as => argSh P t τ a ∧ argsSh P ts τs as
  | _, _, _ => False

def tysOf (P : Program) (k : Nat) : List TypeId → Option (List Ty)
  | [] => some []
  | t :: ts => (tyOf P k t).bind fun a => (tysOf P k ts).bind fun l => some (a :: l)

section
variable {H : Type} {enc : TypeId × Value → H} {P : Program}

theorem args_ty {W : World} {k b0 : Nat} : ∀ {ts : List TypeId} {vs : List Value} {ds : List (DataW H)} {ps : List MemPlace} {τs : List Ty}, tysOf P k ts = some τs →
    (∀ (j : Nat) t v, ts[j]? = some t → vs[j]? = some v → Value.okWide P W .any b0 t v) → DataW.TrodAll enc P W 0 (fun _ => true) true ts vs ds ps →
    ∃ as, FVs (fun b => b < W.heap.size) W as vs ∧ argsSh P ts τs as
  | [], [], [], ps, τs, hτ, hok, h => by
    simp only [tysOf, Option.some.injEq] at hτ; subst hτ
    exact ⟨[], ⟨rfl, by simp⟩, trivial⟩
  | t :: ts, v :: vs, d :: ds, ps, τs, hτ, hok, ⟨p, q, h1, h2, _⟩ => by
    simp only [tysOf] at hτ
    obtain ⟨τ, h3, hτ⟩ := Option.bind_eq_some_iff.1 hτ
    obtain ⟨l, h4, hτ⟩ := Option.bind_eq_some_iff.1 hτ
    simp only [Option.some.injEq] at hτ; subst hτ
    obtain ⟨a, k1, k2⟩ := arg_ty h3 (hok 0 t v rfl rfl) h1
    obtain ⟨as, m1, m2⟩ := args_ty h4 (fun j t v ht hv => hok (j + 1) t v ht hv) h2
    exact ⟨a :: as, (FVs.one k1).append' m1, k2, m2⟩
  | [], _ :: _, _, _, _, _, _, h => h.elim
  | [], [], _ :: _, _, _, _, _, h => h.elim
  | _ :: _, [], _, _, _, _, _, h => h.elim
  | _ :: _, _ :: _, [], _, _, _, _, h => h.elim

theorem trodAll_len {W : World} {sp : Nat → Bool} : ∀ {ts : List TypeId} {vs : List Value} {ds : List (DataW H)} {ps : List MemPlace}, DataW.TrodAll enc P W 0 sp true ts vs ds ps → ds.length = ts.length
  | [], [], [], _, _ => rfl
  | _ :: _, _ :: _, _ :: _, _, ⟨_, _, _, h, _⟩ => by simp [trodAll_len h]
  | [], _ :: _, _, _, h => h.elim
  | [], [], _ :: _, _, h => h.elim
  | _ :: _, [], _, _, h => h.elim
  | _ :: _, _ :: _, [], _, h => h.elim

theorem trodAll_back (hl : laidOutB P = true) {W W' : World} (hb : Below W.heap.size W W') : ∀ {ts : List TypeId} {vs : List Value} {ds : List (DataW H)} {ps : List MemPlace}, (∀ t ∈ ts, P.readableRec t = true ∧ t < P.types.size) →
    DataW.TrodAll enc P W 0 (fun _ => true) true ts vs ds ps → DataW.TrodAll enc P W' 0 (fun b => decide (b < W.heap.size)) true ts vs ds ps
  | [], [], [], _, _, h => h
  | t :: ts, v :: vs, d :: ds, _, ht, ⟨p, q, h1, h2, e⟩ => by
    refine ⟨p, q, ?_, trodAll_back hl hb (fun t h => ht t (List.mem_cons_of_mem _ h)) h2, e⟩
    have lt : ∀ x ∈ p, x.block < W.heap.size := by
      obtain ⟨m, hm⟩ := h1
      exact DataW.trod_lt m _ _ _ hm
    exact Below.trod hl (ht t (List.mem_cons_self ..)).1 (ht t (List.mem_cons_self ..)).2 h1 hb lt
  | [], _ :: _, _, _, _, h => h.elim
  | [], [], _ :: _, _, _, h => h.elim
  | _ :: _, [], _, _, _, h => h.elim
  | _ :: _, _ :: _, [], _, _, h => h.elim

/-- A law's row, of what is told of it. -/
theorem law_row {T : FuncId → Option F} {ov : Ov} {mt : MtF} {md : FuncId → Md} (L : Linked P T ov mt) {f : FuncId} {FF : F} (hT : T f = some FF) {fn : Func} {s : ChangeSpec} {ts : List TypeId} {τs : List Ty} {k0 : Nat} {b : TypeId}
    (hlaid : laidOutB P = true) (hts : fn.params.toList = ts) (hτ : tysOf P k0 ts = some τs) (hr : ∀ t ∈ ts, P.readableRec t = true ∧ t < P.types.size) (hres : fn.resultTypes = #[b]) (hb : P.underlying b = some .bool)
    (hvars : s.vars = []) (hspec : ∀ ds : List (DataW H), ds.length = ts.length → s.fn H ds = { results := [.lit (.bool true)], args := ds })
    (law : ∀ as, argsSh P ts τs as → ∃ k H', call T ov mt md k f as [] = some (.ret (litB true), H'))
    (W : World) (base : Nat) (args : Array Value) (ds gs : List (DataW H)) (before : List MemPlace)
    (hval : ∀ (j : Nat) t v, fn.params[j]? = some t → args[j]? = some v → Value.okWide P W .any base t v)
    (hW : DataW.Whole enc P fn.params.toList s.vars false W args.toList ds gs before) :
    Calls P f args W fun e W' => ∃ v, e = .returned v ∧ s.post enc P fn false true false false W args v W' := by
  have hW' := hW
  obtain ⟨p, q, hA, hV, rfl, hfz, hnd⟩ := hW
  rw [hvars] at hV
  obtain ⟨rfl, rfl⟩ := trodVars_none hV
  rw [hts] at hA
  obtain ⟨as, k1, k2⟩ := args_ty hτ (fun j t v ht hv => hval j t v (by rw [← Array.getElem?_toList, hts]; exact ht) (by rw [← Array.getElem?_toList]; exact hv)) hA
  obtain ⟨k, H', hc⟩ := law as k2
  refine (law_calls L hT hc k1).mono fun e W' ⟨he, bel⟩ => ?_
  subst he
  have hsp := hspec ds (trodAll_len hA)
  refine ⟨_, rfl, ds, [], _, [], p, [], hW', ?_, ?_, ?_, bel.frame _, fun h => by cases h⟩
  · rw [List.append_nil, hsp, hres]
    exact trodAll_mk1 (shut_bool hb _)
  · rw [List.append_nil, hsp, hts]
    exact trodAll_back hlaid bel hr hA
  · rw [List.append_nil, hsp, hvars]
    rfl
end
end Go.Ai
