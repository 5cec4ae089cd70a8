/- Seat of layers 14 and 15: cause.Needs is told. No condition. -/
import Derived.Test.YtcgbdndkfonphaaG8
set_option linter.unusedSimpArgs false
set_option linter.unusedVariables false
set_option linter.unusedSectionVars false
open Nat (reduceLT reduceEqDiff reduceAdd)
namespace Go.Proofs.Ytcgbdndkfonphaa.Ai
open Go Go.Ai
section
variable {call : CallF} {mt : MtF} {md : FuncId → Md}
def needC (f : FlatV) (q : Eqn) : List Int := (compI' (sortI (q.args ++ begF f q ++ [q.guard]))).filter fun x => !decide (x < 0)
theorem lt78_tells (x : Int) : cw 78 [litI .i64 x] [] = some (.ret (litB (decide (x < 0))), []) := by
  refine cw_of fn78 (c := c78) rfl rfl rfl rfl ?_
  simp -implicitDefEqProofs only [c78, aW, ↓aP, makes, reduceLT, reduceEqDiff, reduceAdd]
  rfl
theorem lt78_call (x : Int) (H : List AO) (id : Nat) : callV cw mds 78 [litI .i64 x] H id = some (.val (litB (decide (x < 0))) none) := callV_pure rfl rfl (lt78_tells x) rfl
theorem del78_call {q : Nat} {l : List Int} {z : List AV} (hz : z.all whole = true) (hl : l.length ≤ 1000000) {d : List Obj1} {H : List AO} (O : Own H ((q, cellsI l ++ z, 3) :: d)) :
    ∃ z' H', (∀ id, callV cw mds 76 [.own q 0 l.length 1 none, .fn (.func 78) [] []] H id = some (.wr (.own q 0 (l.filter fun x => !decide (x < 0)).length 1 none) H')) ∧ z'.all whole = true ∧ Own H' ((q, cellsI (l.filter fun x => !decide (x < 0)) ++ z', 3) :: d) := by
  obtain ⟨z', H', h, h1, h2, h3⟩ := del_tells (p := fun x => decide (x < 0)) (fv := .fn (.func 78) [] []) hz (fun x H id => (lt78_call x H id : fnV cw mds (.fn (.func 78) [] []) [litI .i64 x] H id = _)) hl O
  exact ⟨z', H', fun id => callV_same rfl h h2, h1, h3⟩
theorem sort_call {q : Nat} {l : List Int} {z : List AV} (hne : l ≠ []) (hl : l.length ≤ 1000000) {d : List Obj1} {H : List AO} (O : Own H ((q, cellsI l ++ z, 3) :: d)) :
    ∃ H', (∀ id, callV cw mds 75 [.own q 0 l.length 1 none] H id = some (.wr (.tup []) H')) ∧ Own H' ((q, cellsI (sortI l) ++ z, 3) :: d) := by
  have hr : H[q]? = some (.row ([] ++ cellsI l ++ z) 3) := O.head
  have s1 := sortG_row (cap := none) hr rfl hne (by omega)
  refine ⟨_, fun id => callV_same rfl (cw_ov rfl s1) (setL_len _ _ _), ?_⟩
  exact O.set _ 3
theorem compact_call {q : Nat} {l : List Int} {z : List AV} (hne : l ≠ []) (hl : l.length ≤ 1000000) {d : List Obj1} {H : List AO} (O : Own H ((q, cellsI l ++ z, 3) :: d)) :
    ∃ n H', (∀ id, callV cw mds 77 [.own q 0 l.length 1 none] H id = some (.wr (.own q 0 (compI' l).length 1 none) H')) ∧ Own H' ((q, cellsI (compI' l) ++ (List.replicate n (litI .i64 0) ++ z), 3) :: d) := by
  have hr : H[q]? = some (.row ([] ++ cellsI l ++ z) 3) := O.head
  have s1 := compactG_row (cap := none) hr rfl hne (by omega)
  refine ⟨l.length - (compI' l).length, _, fun id => callV_same rfl (cw_ov rfl s1) (setL_len _ _ _), ?_⟩
  have := O.set ([] ++ cellsI (compI' l ++ List.replicate (l.length - (compI' l).length) 0) ++ z) 3
  have e : [] ++ cellsI (compI' l ++ List.replicate (l.length - (compI' l).length) 0) ++ z = cellsI (compI' l) ++ (List.replicate (l.length - (compI' l).length) (litI .i64 0) ++ z) := by simp [cellsI]
  rw [e] at this
  rw [e]; exact this
theorem own_load {H : List AO} {d : List Obj1} {r off : Nat} {cs : List AV} {t : TypeId} {a : AV} (O : Own H d) (hm : (r, cs, t) ∈ d) (ha : cs[off]? = some a) : Ai.load H none (.ptr r off) = some a := load_at (O.get _ hm) ha
theorem own_agg {H : List AO} {d : List Obj1} {r n : Nat} {cs : List AV} {t : TypeId} (O : Own H d) (hm : (r, cs, t) ∈ d) (hn : cs.length = n) : Ai.load H (some n) (.ptr r 0) = some (.agg cs) := load_agg (O.get _ hm) hn
abbrev nd (f : FlatV) (o : Nat) (us : Ord.US) : List Obj1 := (0, f.cs, 29) :: (o, us.cells, 23) :: us.objs
theorem needs54_round (f : FlatV) (F : FitsS f) (i : Nat) (q : Eqn) (hq : f.eqs[i]? = some q) (K : KOk f q) (n : Nat) (hn : n ≤ 1000000) (hv : 0 ≤ q.var ∧ q.var < (n : Int)) (o : Nat) (us : Ord.US) (hus : us.length = n) (H : List AO) (O : Own H (nd f o us)) :
    ∃ (x : AV × List Int × List Obj1) (H' : List AO), codeW cw (lookM mtl) mds c54l0 [(1, .ptr 0 0), (3, .own o 0 n 1 (some n)), (15, eqsA f.eqs), (16, litI .i64 f.eqs.length), (17, litI .i64 i)] H =
      some (.normal, [(1, .ptr 0 0), (3, .own o 0 n 1 (some n)), (15, eqsA f.eqs), (16, litI .i64 f.eqs.length), (17, litI .i64 (i + 1 : Nat))], H') ∧ Ord.Sl x.1 x.2.1 x.2.2 ∧ x.1 ≠ .sl 0 [] (some 0) ∧ x.2.1 = needC f q ∧ Own H' (nd f o (us.set q.var.toNat x)) := by
  have hi : i < f.eqs.length := (List.getElem?_eq_some_iff.1 hq).1
  have hlt : (i : Int) < f.eqs.length := by omega
  have hw := wrap1 (show i < 4611686018427387904 by have := F.eqs; omega)
  have hA := load_ipA (H := H) (show (Eqn.cs q).length = 10 from rfl)
  have hmem : q ∈ f.eqs := List.mem_of_getElem? hq
  have ha := F.args q hmem
  have hb : (begF f q).length ≤ 20 := by
    unfold begF
    cases hm : isS q.op [109, 101, 109] with
    | true =>
      obtain ⟨m, h1, _, h3⟩ := iadr_memsI (K.m hm)
      rw [cond_true, h3]; exact F.mres m (List.mem_of_getElem? h1)
    | false =>
      cases hk : isS q.op [99, 111, 110, 116] with
      | true =>
        obtain ⟨m, h1, _, h3⟩ := iadr_contsI (K.k hk)
        rw [cond_false, cond_true, h3]; exact F.cres m (List.mem_of_getElem? h1)
      | false => exact Nat.zero_le _
  have O2 : Own (H ++ [.row q.cs 60]) ((H.length, q.cs, 60) :: nd f o us) := O.new q.cs 60
  have hf8 : Ai.load (H ++ [.row q.cs 60]) (some 8) (.ptr 0 0) = some (.agg f.cs) := own_agg O2 (cs := f.cs) (t := 29) (by simp) rfl
  have hB := begins_call f q K
  have hrB := begA_row f q
  have b3 := bslV_r3 (H ++ [.row q.cs 60]) (.sl 0 [] (some 0)) (RowA.of q.args none) hrB (RowA.of [q.guard] (some 1))
  rw [show rowC [q.guard] (some 1) = .sl 1 [[litI .i64 q.guard]] (some 1) from rfl] at b3
  obtain ⟨A, oo, H3, ap, S3, O3⟩ := concat_call [(rowC q.args none, q.args), (begA f q, begF f q), (rowC [q.guard] (some 1), [q.guard])] (some 3) (fun p hp => by
    simp only [List.mem_cons, List.not_mem_nil, or_false] at hp
    rcases hp with rfl | rfl | rfl
    · exact RowA.of _ _
    · exact hrB
    · exact RowA.of _ _) (by simp) (by simp [Rows.cat]; omega) (H ++ [.row q.cs 60]) _ O2
  rw [show catA [(rowC q.args none, q.args), (begA f q, begF f q), (rowC [q.guard] (some 1), [q.guard])] (some 3) = .sl 1 [[rowC q.args none], [begA f q], [.sl 1 [[litI .i64 q.guard]] (some 1)]] (some 3) from rfl] at ap
  have hcat : Rows.cat [(rowC q.args none, q.args), (begA f q, begF f q), (rowC [q.guard] (some 1), [q.guard])] = q.args ++ begF f q ++ [q.guard] := by simp [Rows.cat]
  rw [hcat] at S3
  have hne : q.args ++ begF f q ++ [q.guard] ≠ [] := by simp
  rcases S3 with ⟨e, _, h0, _⟩ | ⟨p, z, hz, rfl, rfl⟩
  · exact absurd h0 hne
  have hlen : (q.args ++ begF f q ++ [q.guard]).length ≤ 1000000 := by simp; omega
  rw [List.singleton_append] at O3
  obtain ⟨H4, cS, O4⟩ := sort_call hne hlen O3
  have hsl : (sortI (q.args ++ begF f q ++ [q.guard])).length = (q.args ++ begF f q ++ [q.guard]).length := sortI_len _
  have hne2 : sortI (q.args ++ begF f q ++ [q.guard]) ≠ [] := by intro e; rw [e] at hsl; simp at hsl
  obtain ⟨k, H5, cC, O5⟩ := compact_call hne2 (by rw [hsl]; exact hlen) O4
  rw [hsl] at cC
  have hcl : (compI' (sortI (q.args ++ begF f q ++ [q.guard]))).length ≤ 1000000 := by have := compI_len (sortI (q.args ++ begF f q ++ [q.guard])); omega
  obtain ⟨z', H6, cD, hz', O6⟩ := del78_call (by rw [List.all_append, hz, Bool.and_true, whole_zeros]) hcl O5
  obtain ⟨v, hvv, hvn⟩ : ∃ v : Nat, q.var = v ∧ v < n := ⟨q.var.toNat, by omega, by omega⟩
  have hvt : q.var.toNat = v := by omega
  have ia : iadr 1 (.own o 0 n 1 (some n)) (litI .i64 q.var) = some (.ptr o v) := by
    rw [hvv, iadr_own, if_pos (by omega)]; simp
  have L4 : Ai.load H4 none (.ptr H.length 0) = some (litI .i64 q.var) := own_load O4 (cs := q.cs) (t := 60) (by simp) rfl
  have L5 : Ai.load H5 none (.ptr H.length 0) = some (litI .i64 q.var) := own_load O5 (cs := q.cs) (t := 60) (by simp) rfl
  have L6 : Ai.load H6 none (.ptr H.length 0) = some (litI .i64 q.var) := own_load O6 (cs := q.cs) (t := 60) (by simp) rfl
  change Own H6 ((p, cellsI (needC f q) ++ z', 3) :: (H.length, q.cs, 60) :: nd f o us) at O6
  have hgo : H6[o]? = some (.row us.cells 23) := O6.get (o, us.cells, 23) (by simp)
  have hcl2 : us.cells.length = n := by simp [Ord.US.cells, hus]
  let x : AV × List Int × List Obj1 := (.own p 0 (needC f q).length 1 none, needC f q, [(p, cellsI (needC f q) ++ z', 3)])
  have hset : (Ord.US.cells (us.set v x)) = us.cells.set v (.own p 0 (needC f q).length 1 none) := by simp [Ord.US.cells, x]
  have st : storeAt H6 1 (.ptr o v) (.own p 0 (needC f q).length 1 none) = some (setL H6 o (.row (Ord.US.cells (us.set v x)) 23)) := by
    rw [store_ptr hgo (by omega) rfl rfl, hset]
  obtain ⟨y, hy⟩ : ∃ y, us[v]? = some y := ⟨_, List.getElem?_eq_getElem (by omega)⟩
  have e1 : Own H6 ((o, us.cells, 23) :: (p, cellsI (needC f q) ++ z', 3) :: (H.length, q.cs, 60) :: (0, f.cs, 29) :: us.objs) := by
    refine O6.perm ?_
    refine (List.Perm.cons _ (List.Perm.cons _ (List.Perm.swap ..))).trans ?_
    refine (List.Perm.cons _ (List.Perm.swap ..)).trans ?_
    exact List.Perm.swap ..
  have e2 := e1.set (Ord.US.cells (us.set v x)) 23
  have L7 : Ai.load (setL H6 o (.row (Ord.US.cells (us.set v x)) 23)) none (.ptr H.length 0) = some (litI .i64 q.var) := own_load e2 (cs := q.cs) (t := 60) (by simp) rfl
  have O7 : Own (setL H6 o (.row (Ord.US.cells (us.set v x)) 23)) (nd f o (us.set v x)) := by
    have e3 : Own (setL H6 o (.row (Ord.US.cells (us.set v x)) 23)) ((o, (Ord.US.cells (us.set v x)), 23) :: (p, cellsI (needC f q) ++ z', 3) :: (0, f.cs, 29) :: Ord.US.objs (us.set v Ord.noU)) := by
      have hp := Ord.US.focus hy
      have e4 := e2.perm (List.Perm.cons _ (List.Perm.cons _ (List.Perm.cons _ (List.Perm.cons _ hp))))
      refine e4.sub ?_
      refine List.Sublist.cons_cons _ (List.Sublist.cons_cons _ (List.Sublist.cons _ (List.Sublist.cons_cons _ ?_)))
      exact List.sublist_append_right ..
    have hr := (Ord.US.refocus x (show v < us.length by omega)).symm
    refine e3.perm ?_
    refine (List.Perm.cons _ (List.Perm.swap ..)).trans ?_
    refine (List.Perm.swap ..).trans ?_
    refine List.Perm.cons _ (List.Perm.cons _ ?_)
    exact hr
  have hd78 : ∀ id, callV cw mds 76 [.own p 0 (compI' (sortI (q.args ++ begF f q ++ [q.guard]))).length 1 none, .fn (.func 78) [] []] H5 id = some (.wr (.own p 0 (needC f q).length 1 none) H6) := cD
  rw [hvt]
  refine ⟨x, _, ?_, .inr ⟨p, z', hz', rfl, rfl⟩, (fun e => by cases e), rfl, O7⟩
  simp -implicitDefEqProofs only [c54l0, aW, ↓aP, makes, reduceLT, reduceEqDiff, reduceAdd, hlt, iadr_eqs, hq, hA, eq_st, fadr_ptr, Nat.zero_add, Nat.add_zero, eq_g0, eq_g2, eq_g9, eq_gA, hf8, hB, core_bsl, b3, ap.tlS, show mds 74 = Md.pure from rfl,  cS, L4, L5, L6, L7, cC, hd78, ia, st, hw, bslV_1]
end
section
variable {call : CallF} {mt : MtF} {md : FuncId → Md}
theorem nodup_le : ∀ {l m : List Nat}, l.Nodup → (∀ x ∈ l, x ∈ m) → l.length ≤ m.length
  | [], _, _, _ => Nat.zero_le _
  | x :: r, m, hn, hs => by
    rw [List.nodup_cons] at hn
    have hx := hs x (List.mem_cons_self ..)
    have := nodup_le (l := r) (m := m.erase x) hn.2 fun y hy => by
      have hne : y ≠ x := fun e => hn.1 (e ▸ hy)
      exact (List.mem_erase_of_ne hne).2 (hs y (List.mem_cons_of_mem _ hy))
    rw [List.length_erase_of_mem hx] at this
    have := List.length_pos_of_mem hx
    simp only [List.length_cons]; omega
theorem nodup_all {l : List Nat} {n : Nat} (hn : l.Nodup) (hl : l.length = n) (hs : ∀ x ∈ l, x < n) : ∀ v, v < n → v ∈ l := by
  intro v hv
  apply Classical.byContradiction
  intro hm
  have := nodup_le (l := v :: l) (m := List.range n) (by rw [List.nodup_cons]; exact ⟨hm, hn⟩) fun x hx => by
    rcases List.mem_cons.1 hx with rfl | hx
    · exact List.mem_range.2 hv
    · exact List.mem_range.2 (hs x hx)
  simp at this; omega
theorem GoodF.all {f : FlatV} (G : GoodF f) (v : Nat) (hv : v < f.names.length) : ∃ q ∈ f.eqs, q.var.toNat = v := by
  have hn : (f.eqs.map fun q => q.var.toNat).Nodup := by
    have h := G.nodup
    have hr := G.var
    generalize f.eqs = l at h hr
    induction l with
    | nil => simp
    | cons q l ih =>
      rw [List.map_cons, List.nodup_cons] at h ⊢
      refine ⟨fun hm => h.1 ?_, ih h.2 fun q' hq => hr q' (List.mem_cons_of_mem _ hq)⟩
      obtain ⟨q', hq', e⟩ := List.mem_map.1 hm
      have h1 := hr q (List.mem_cons_self ..)
      have h2 := hr q' (List.mem_cons_of_mem _ hq')
      exact List.mem_map.2 ⟨q', hq', by omega⟩
  have := nodup_all hn (by rw [List.length_map, G.len]) (fun x hx => by
    obtain ⟨q, hq, rfl⟩ := List.mem_map.1 hx
    have := G.var q hq; omega) v hv
  obtain ⟨q, hq, e⟩ := List.mem_map.1 this
  exact ⟨q, hq, e⟩
def setN (g : Eqn → List Int) : List (List Int) → List Eqn → List (List Int)
  | rows, [] => rows
  | rows, q :: r => setN g (rows.set q.var.toNat (g q)) r
theorem setN_len (g : Eqn → List Int) : ∀ (l : List Eqn) (rows : List (List Int)), (setN g rows l).length = rows.length
  | [], _ => rfl
  | q :: r, rows => by rw [setN, setN_len g r]; simp
def OwnAt (us : Ord.US) (v : Nat) : Prop := ∃ x, us[v]? = some x ∧ x.1 ≠ .sl 0 [] (some 0)
theorem needs54_loop (f : FlatV) (F : FitsS f) (K : ∀ q ∈ f.eqs, KOk f q) (n : Nat) (hn : n ≤ 1000000) (hv : ∀ q ∈ f.eqs, 0 ≤ q.var ∧ q.var < (n : Int)) (o : Nat) : ∀ (m i : Nat) (us : Ord.US) (H : List AO), m + i = f.eqs.length → us.length = n → us.ok → Own H (nd f o us) →
    ∃ (us' : Ord.US) (H' : List AO), loopW (codeW cw (lookM mtl) mds c54l0) [1, 3, 15, 16, 17] [(1, .ptr 0 0), (3, .own o 0 n 1 (some n)), (15, eqsA f.eqs), (16, litI .i64 f.eqs.length), (17, litI .i64 i)] H =
      some (.exit 0, [(1, .ptr 0 0), (3, .own o 0 n 1 (some n)), (15, eqsA f.eqs), (16, litI .i64 f.eqs.length), (17, litI .i64 f.eqs.length), (18, litB false)], H') ∧ us'.length = n ∧ us'.ok ∧ us'.ints = setN (needC f) us.ints (f.eqs.drop i) ∧
      (∀ v, OwnAt us v ∨ (∃ q ∈ f.eqs.drop i, q.var.toNat = v) → OwnAt us' v) ∧ Own H' (nd f o us')
  | 0, i, us, H, h, hus, hok, O => by
    have hi : i = f.eqs.length := by omega
    subst hi
    refine ⟨us, H, loopW_out ?_ (by simp), hus, hok, by rw [List.drop_length]; rfl, fun v hv => ?_, O⟩
    · simp -implicitDefEqProofs only [c54l0, aW, ↓aP, makes, reduceLT, reduceEqDiff, reduceAdd, Int.lt_irrefl]
    · rcases hv with hv | ⟨q, hq, _⟩
      · exact hv
      · rw [List.drop_length] at hq; cases hq
  | m + 1, i, us, H, h, hus, hok, O => by
    have hi : i < f.eqs.length := by omega
    have hg : f.eqs[i]? = some f.eqs[i] := List.getElem?_eq_getElem hi
    have hmem := List.getElem_mem hi
    obtain ⟨x, H1, R, S, hx, hxi, O1⟩ := needs54_round f F i _ hg (K _ hmem) n hn (hv _ hmem) o us hus H O
    obtain ⟨us', H', L, q1, q2, q3, q4, q5⟩ := needs54_loop f F K n hn hv o m (i + 1) (us.set f.eqs[i].var.toNat x) H1 (by omega) (by simpa using hus) (Ord.US.ok_set hok S) O1
    refine ⟨us', H', loopW_round R L, q1, q2, ?_, fun v hvv => q4 v ?_, q5⟩
    · rw [q3, List.drop_eq_getElem_cons hi, setN]
      congr 1
      simp only [Ord.US.ints, List.map_set, hxi]
    · have hvar := hv _ hmem
      by_cases e : f.eqs[i].var.toNat = v
      · exact .inl ⟨x, by rw [← e, List.getElem?_set_self (by omega)], hx⟩
      · rcases hvv with ⟨y, hy, hy2⟩ | ⟨q, hq, hqv⟩
        · exact .inl ⟨y, by rw [List.getElem?_set_ne e]; exact hy, hy2⟩
        · right
          rw [List.drop_eq_getElem_cons hi] at hq
          rcases List.mem_cons.1 hq with rfl | hq
          · exact absurd hqv e
          · exact ⟨q, hq, hqv⟩
theorem frz_rows {H : List AO} {k : Nat} : ∀ {us : Ord.US}, us.ok → (∀ x ∈ us, x.1 ≠ .sl 0 [] (some 0)) → (∀ ob ∈ us.objs, H[ob.1]? = some (.row ob.2.1 ob.2.2)) →
    ∃ ids, mapR (frz H (k + 2)) 1 us.length us.cells = some (us.map fun x => [rowC x.2.1 none], ids)
  | [], _, _, _ => ⟨[], rfl⟩
  | x :: us, hok, hne, hob => by
    obtain ⟨ids, ih⟩ := frz_rows (H := H) (k := k) (us := us) (fun y hy => hok y (List.mem_cons_of_mem _ hy)) (fun y hy => hne y (List.mem_cons_of_mem _ hy)) (fun ob h => hob ob (by
      simp only [Ord.US.objs, List.flatMap_cons, List.mem_append] at h ⊢; exact .inr h))
    rcases hok x (List.mem_cons_self ..) with ⟨h1, _⟩ | ⟨p, z, hz, h1, h2⟩
    · exact absurd h1 (hne x (List.mem_cons_self ..))
    · have hp := hob (p, cellsI x.2.1 ++ z, 3) (by simp only [Ord.US.objs, List.flatMap_cons, List.mem_append]; left; rw [h2]; simp)
      have fz := Ord.frz_ints (k := k) (c := none) hp hz rfl
      refine ⟨[p] ++ [] ++ ids, ?_⟩
      simp only [Ord.US.cells, List.map_cons, List.length_cons] at ih ⊢
      rw [mapR]
      simp only [List.take_succ_cons, List.take_zero, List.drop_succ_cons, List.drop_zero, mapL, h1, fz, Option.bind_some]
      rw [show (List.map (fun x => x.fst) us) = Ord.US.cells us from rfl] at ih
      simp only [Ord.US.cells] at ih
      rw [ih]
      rfl
theorem callV_frz {f : FuncId} {args : List AV} {a b : AV} {ids : List Nat} {H H' : List AO} {id : Nat} (hm : mds f = .pure) (hw : args.all wholeA = true) (h : cw f args [] = some (.ret a, H')) (hf : frz H' frzF a = some (b, ids)) : callV cw mds f args H id = some (.val b none) := by
  unfold callV
  rw [hm]
  simp only
  rw [show mapL (frz H frzF) args = some (args, []) from mapL_wholeA (k := 14) hw]
  simp only [Option.bind_some]
  rw [h]
  simp only [Option.bind_some]
  rw [hf]
  rfl
def NC (f : FlatV) : List (List Int) := setN (needC f) (List.replicate f.names.length []) f.eqs
theorem NC_len (f : FlatV) : (NC f).length = f.names.length := by unfold NC; rw [setN_len]; simp
abbrev ncA (f : FlatV) : AV := Ord.gX (fun _ => none) (some f.names.length) (NC f)
theorem needs54_call (f : FlatV) (F : FitsS f) (hG : goodOk f = true) (H : List AO) (id : Nat) : callV cw mds 54 [flatA f] H id = some (.val (ncA f) none) := by
  have G := goodF_of hG
  have hn := F.names
  have hgc : ∀ H id, callV cw mds 37 [.agg f.cs] H id = some (.val (litB true) none) := fun H id => by have := good_call f F.fits H id; rw [hG] at this; exact this
  have lA : Ai.load [.row f.cs 29] (some 8) (.ptr 0 0) = some (.agg f.cs) := load_agg rfl rfl
  have l1 : Ai.load [.row f.cs 29] none (.ptr 0 1) = some (strs f.names) := rfl
  have hm1 := mksV_ok (id := 1) (e := 1) (bytes := 24) (z := [.sl 0 [] (some 0)]) (t := 23) (n := f.names.length) (by omega) (by omega)
  rw [reps_one] at hm1
  let us0 : Ord.US := List.replicate f.names.length (.sl 0 [] (some 0), [], [])
  have hcells : us0.cells = List.replicate f.names.length (.sl 0 [] (some 0)) := by simp [us0, Ord.US.cells]
  have hints : us0.ints = List.replicate f.names.length [] := by simp [us0, Ord.US.ints]
  have hobjs : us0.objs = [] := by simp [us0, Ord.US.objs]
  have O : Own [AO.row f.cs 29, .row (List.replicate f.names.length (.sl 0 [] (some 0))) 23] (nd f 1 us0) := by
    unfold nd
    rw [hcells, hobjs]
    refine ⟨by simp, fun x hx => ?_⟩
    simp only [List.mem_cons, List.not_mem_nil, or_false] at hx
    rcases hx with rfl | rfl <;> rfl
  obtain ⟨us, H', L, q1, q2, q3, q4, q5⟩ := needs54_loop f F G.kok f.names.length (by omega) G.var 1 f.eqs.length 0 us0 _ (by omega) (by simp [us0]) (fun x hx => by rw [List.eq_of_mem_replicate hx]; exact Ord.Sl.nil) O
  rw [show ((0 : Nat) : Int) = 0 from rfl] at L
  rw [List.drop_zero] at q3 q4
  have hne : ∀ x ∈ us, x.1 ≠ .sl 0 [] (some 0) := by
    intro x hx
    obtain ⟨v, hv⟩ := List.getElem?_of_mem hx
    have hvl : v < f.names.length := by rw [← q1]; exact (List.getElem?_eq_some_iff.1 hv).1
    obtain ⟨y, hy, h⟩ := q4 v (.inr (G.all v hvl))
    rw [hv] at hy; simp only [sI] at hy; subst hy; exact h
  obtain ⟨ids, fz⟩ := frz_rows (H := H') (k := 13) q2 hne (fun ob hob => q5.get ob (by simp [nd, hob]))
  have ho : H'[1]? = some (.row us.cells 23) := q5.get (1, us.cells, 23) (by simp [nd])
  have hcl : us.cells.length = f.names.length := by simp [Ord.US.cells, q1]
  have hfr : frz H' frzF (.own 1 0 f.names.length 1 (some f.names.length)) = some (ncA f, 1 :: ids) := by
    rw [show frzF = 13 + 2 + 1 from rfl, frz]
    have hb : Nat.ble (0 + f.names.length * 1) us.cells.length = true := Nat.ble_eq_true_of_le (by omega)
    simp only [ho, hb, cond_true, List.drop_zero]
    rw [← q1, fz]
    simp only [Option.bind_some]
    have : ncA f = .sl 1 (us.map fun x => [rowC x.2.1 none]) (some us.length) := by
      unfold ncA Ord.gX
      rw [show NC f = us.ints from by rw [q3, hints]; rfl]
      congr 1
      · apply List.ext_getElem?
        intro i
        simp [Ord.US.ints]
        cases us[i]? <;> rfl
      · rw [q1]
    rw [this]
  refine callV_frz (a := .own 1 0 f.names.length 1 (some f.names.length)) (H' := H') rfl rfl ?_ hfr
  refine cw_of fn54 (c := c54) rfl rfl rfl rfl ?_
  simp -implicitDefEqProofs only [c54, aW, ↓aP, makes, reduceLT, reduceEqDiff, reduceAdd, core_box, flat_f, List.length_nil, List.length_cons, lA, hgc, fadr_ptr, Nat.zero_add, l1, lenV_strs, hm1, show ∀ X, Ai.load [.row f.cs 29, X] none (.ptr 0 3) = some (eqsA f.eqs) from fun X => rfl, lenV_eqs, L]
  rfl
end
section
variable {call : CallF} {mt : MtF} {md : FuncId → Md}
def memL (m : MemV) : List Int := [m.next, m.guard] ++ m.resets
def slopeL (s : SlopeV) : List Int := [s.guard, s.var]
def contL (c : ContV) : List Int := [c.var, c.guard] ++ c.resets ++ c.slopes.flatMap slopeL
def isVS (o : COpV) : Bool := isS o.op [118, 97, 114] || isS o.op [115, 101, 108]
def opL (o : COpV) : List Int := bif isVS o then [o.args.headD 0] else []
def crossL (c : CrossV) : List Int := c.guard :: c.ops.flatMap opL
def endL (f : FlatV) : List Int := f.outs ++ f.again ++ f.mems.flatMap memL ++ f.conts.flatMap contL ++ f.cross.flatMap crossL
theorem own_newM {H : List AO} {o d : List Obj1} (O : Own H (o ++ d)) (cs : List AV) (t : TypeId) : Own (H ++ [.row cs t]) (o ++ ((H.length, cs, t) :: d)) := (O.new cs t).perm List.perm_middle.symm
theorem own_drop {H : List AO} {o d : List Obj1} {x : Obj1} (O : Own H (o ++ (x :: d))) : Own H (o ++ d) := O.sub (List.Sublist.append (List.Sublist.refl _) (List.sublist_cons_self ..))
theorem mem_st (H : List AO) (m : MemV) : storeAt (H ++ [AO.row [litI .i64 0, litB false, .sl 0 [] (some 0), .sl 0 [] (some 0), litS (bs []), litI .i64 0, litI .i64 0, .sl 0 [] (some 0)] 87]) 8 (.ptr H.length 0) (.agg m.cs) = some (H ++ [.row m.cs 87]) := by
  rw [storeAt_agg (n := 8) (xs := m.cs) (get_last H _) rfl rfl rfl, setL_last]
theorem cont_st (H : List AO) (m : ContV) : storeAt (H ++ [AO.row [litI .i64 0, litB false, .sl 0 [] (some 0), .sl 0 [] (some 0), litS (bs []), litI .i64 0, litI .i64 0, .sl 0 [] (some 0), .sl 0 [] (some 0)] 90]) 9 (.ptr H.length 0) (.agg m.cs) = some (H ++ [.row m.cs 90]) := by
  rw [storeAt_agg (n := 9) (xs := m.cs) (get_last H _) rfl rfl rfl, setL_last]
theorem slope_st (H : List AO) (m : SlopeV) : storeAt (H ++ [AO.row [litI .i64 0, litI .i64 0] 92]) 2 (.ptr H.length 0) (.agg m.cs) = some (H ++ [.row m.cs 92]) := by
  rw [storeAt_agg (n := 2) (xs := m.cs) (get_last H _) rfl rfl rfl, setL_last]
theorem cross_st (H : List AO) (m : CrossV) : storeAt (H ++ [AO.row [litI .i64 0, .sl 0 [] (some 0)] 45]) 2 (.ptr H.length 0) (.agg m.cs) = some (H ++ [.row m.cs 45]) := by
  rw [storeAt_agg (n := 2) (xs := m.cs) (get_last H _) rfl rfl rfl, setL_last]
theorem cop_st (H : List AO) (m : COpV) : storeAt (H ++ [AO.row [litS (bs []), .sl 0 [] (some 0)] 94]) 2 (.ptr H.length 0) (.agg m.cs) = some (H ++ [.row m.cs 94]) := by
  rw [storeAt_agg (n := 2) (xs := m.cs) (get_last H _) rfl rfl rfl, setL_last]
theorem bslV_2r (H : List AO) (z : AV) (n m : Int) : bslV H 1 2 [z] [(0, litI .i64 n), (1, litI .i64 m)] = some (.val (rowC [n, m] (some 2)) none) := rfl
theorem bslV_1r (H : List AO) (z : AV) (n : Int) : bslV H 1 1 [z] [(0, litI .i64 n)] = some (.val (rowC [n] (some 1)) none) := rfl
theorem bh0_round (f : FlatV) (i : Nat) (m : MemV) (hi : f.mems[i]? = some m) (hb : i < 4611686018427387904) (hm : m.resets.length ≤ 1000) (A : AV) (l : List Int) (o d : List Obj1) (H : List AO) (hl : l.length ≤ 900000) (S : SlX A l o) (O : Own H (o ++ d)) :
    ∃ A' o' H', codeW cw (lookM mtl) mds c55l0 [(1, .ptr 0 0), (3, A), (21, memsA f.mems), (22, litI .i64 f.mems.length), (23, litI .i64 i)] H =
      some (.normal, [(1, .ptr 0 0), (3, A'), (21, memsA f.mems), (22, litI .i64 f.mems.length), (23, litI .i64 (i + 1 : Nat))], H') ∧ SlX A' (l ++ memL m) o' ∧ Own H' (o' ++ d) := by
  have hlt : (i : Int) < f.mems.length := by have := (List.getElem?_eq_some_iff.1 hi).1; omega
  have hA := load_ipA (H := H) (show (MemV.cs m).length = 8 from rfl)
  have O1 := own_newM O m.cs 87
  obtain ⟨A2, o2, H2, ap, S2, O2⟩ := S.append O1 (RowA.of [m.next, m.guard] (some 2)) (by simp; omega)
  obtain ⟨A3, o3, H3, ap2, S3, O3⟩ := S2.append O2 (RowA.of m.resets none) (by simp; omega)
  have L5 : Ai.load (H ++ [.row m.cs 87]) none (.ptr H.length 5) = some (litI .i64 m.next) := own_load O1 (cs := m.cs) (t := 87) (by simp) rfl
  have L6 : Ai.load (H ++ [.row m.cs 87]) none (.ptr H.length 6) = some (litI .i64 m.guard) := own_load O1 (cs := m.cs) (t := 87) (by simp) rfl
  have L7 : Ai.load (H ++ [.row m.cs 87]) none (.ptr H.length 7) = some (rowC m.resets none) := own_load O1 (cs := m.cs) (t := 87) (by simp) rfl
  have L72 : Ai.load H2 none (.ptr H.length 7) = some (rowC m.resets none) := own_load O2 (cs := m.cs) (t := 87) (by simp) rfl
  refine ⟨A3, o3, H3, ?_, by rw [List.append_assoc] at S3; exact S3, (own_drop O3)⟩
  simp -implicitDefEqProofs only [c55l0, aW, ↓aP, makes, reduceLT, reduceEqDiff, reduceAdd, hlt, iadr_mems, hi, hA, mem_st, fadr_ptr, Nat.zero_add, Nat.add_zero, L5, L6, L7, L72, core_bsl, bslV_2r, ap.tlS, ap2.tlS, wrap1 hb]
theorem bh0_loop (f : FlatV) (hm : ∀ m ∈ f.mems, m.resets.length ≤ 100) (hn : f.mems.length ≤ 100) (d : List Obj1) : ∀ (k i : Nat) (A : AV) (l : List Int) (o : List Obj1) (H : List AO), k + i = f.mems.length → l.length ≤ 1000 * i + 1000 → SlX A l o → Own H (o ++ d) →
    ∃ A' o' H', loopW (codeW cw (lookM mtl) mds c55l0) [1, 3, 21, 22, 23] [(1, .ptr 0 0), (3, A), (21, memsA f.mems), (22, litI .i64 f.mems.length), (23, litI .i64 i)] H =
      some (.exit 0, [(1, .ptr 0 0), (3, A'), (21, memsA f.mems), (22, litI .i64 f.mems.length), (23, litI .i64 f.mems.length), (24, litB false)], H') ∧ SlX A' (l ++ (f.mems.drop i).flatMap memL) o' ∧ Own H' (o' ++ d)
  | 0, i, A, l, o, H, h, hl, S, O => by
    have hi : i = f.mems.length := by omega
    subst hi
    refine ⟨A, o, H, loopW_out ?_ (by simp), by rw [List.drop_length]; simpa using S, O⟩
    simp -implicitDefEqProofs only [c55l0, aW, ↓aP, makes, reduceLT, reduceEqDiff, reduceAdd, Int.lt_irrefl]
  | k + 1, i, A, l, o, H, h, hl, S, O => by
    have hi : i < f.mems.length := by omega
    have hg : f.mems[i]? = some f.mems[i] := List.getElem?_eq_getElem hi
    have hmm := hm _ (List.getElem_mem hi)
    obtain ⟨A1, o1, H1, R, S1, O1⟩ := bh0_round f i _ hg (by omega) (by omega) A l o d H (by omega) S O
    obtain ⟨A', o', H', L, S', O'⟩ := bh0_loop f hm hn d k (i + 1) A1 _ o1 H1 (by omega) (by simp [memL]; omega) S1 O1
    refine ⟨A', o', H', loopW_round R L, ?_, O'⟩
    rw [List.drop_eq_getElem_cons hi, List.flatMap_cons, ← List.append_assoc]
    exact S'
theorem bh1_loop (sl : List SlopeV) (hn : sl.length ≤ 100) (d : List Obj1) (v39 v40 v41 : AV) : ∀ (k i : Nat) (A : AV) (l : List Int) (o : List Obj1) (H : List AO), k + i = sl.length → l.length + 2 * k ≤ 900000 → SlX A l o → Own H (o ++ d) →
    ∃ A' o' H', loopW (codeW cw (lookM mtl) mds c55l1) [1, 3, 39, 40, 41, 56, 57, 58] [(1, .ptr 0 0), (3, A), (39, v39), (40, v40), (41, v41), (56, slopesA sl), (57, litI .i64 sl.length), (58, litI .i64 i)] H =
      some (.exit 4, [(1, .ptr 0 0), (3, A'), (39, v39), (40, v40), (41, v41), (56, slopesA sl), (57, litI .i64 sl.length), (58, litI .i64 sl.length), (59, litB false)], H') ∧ SlX A' (l ++ (sl.drop i).flatMap slopeL) o' ∧ Own H' (o' ++ d)
  | 0, i, A, l, o, H, h, hl, S, O => by
    have hi : i = sl.length := by omega
    subst hi
    refine ⟨A, o, H, loopW_out ?_ (by simp), by rw [List.drop_length]; simpa using S, O⟩
    simp -implicitDefEqProofs only [c55l1, aW, ↓aP, makes, reduceLT, reduceEqDiff, reduceAdd, Int.lt_irrefl]
  | k + 1, i, A, l, o, H, h, hl, S, O => by
    have hi : i < sl.length := by omega
    have hg : sl[i]? = some sl[i] := List.getElem?_eq_getElem hi
    have hlt : (i : Int) < sl.length := by omega
    have hA := load_ipA (H := H) (show (SlopeV.cs sl[i]).length = 2 from rfl)
    have O1 := own_newM O (SlopeV.cs sl[i]) 92
    have L0 : Ai.load (H ++ [.row (SlopeV.cs sl[i]) 92]) none (.ptr H.length 0) = some (litI .i64 sl[i].guard) := own_load O1 (cs := SlopeV.cs sl[i]) (t := 92) (by simp) rfl
    have L1 : Ai.load (H ++ [.row (SlopeV.cs sl[i]) 92]) none (.ptr H.length 1) = some (litI .i64 sl[i].var) := own_load O1 (cs := SlopeV.cs sl[i]) (t := 92) (by simp) rfl
    obtain ⟨A2, o2, H2, ap, S2, O2⟩ := S.append O1 (RowA.of [sl[i].guard, sl[i].var] (some 2)) (by simp; omega)
    obtain ⟨A', o', H', L, S', O'⟩ := bh1_loop sl hn d v39 v40 v41 k (i + 1) A2 _ o2 H2 (by omega) (by simp; omega) S2 (own_drop O2)
    refine ⟨A', o', H', loopW_round ?_ L, ?_, O'⟩
    · simp -implicitDefEqProofs only [c55l1, aW, ↓aP, makes, reduceLT, reduceEqDiff, reduceAdd, hlt, iadr_slopes, hg, hA, slope_st, fadr_ptr, Nat.zero_add, Nat.add_zero, L0, L1, core_bsl, bslV_2r, ap.opS, wrap1 (show i < 4611686018427387904 by omega)]
    · rw [List.drop_eq_getElem_cons hi, List.flatMap_cons, ← List.append_assoc]
      exact S'
theorem bh2_loop (f : FlatV) (hm : ∀ m ∈ f.conts, m.resets.length ≤ 100) (hs : ∀ m ∈ f.conts, m.slopes.length ≤ 100) (hn : f.conts.length ≤ 100) (d : List Obj1) : ∀ (k i : Nat) (A : AV) (l : List Int) (o : List Obj1) (H : List AO), k + i = f.conts.length → l.length + 1000 * k ≤ 800000 → SlX A l o → Own H (o ++ d) →
    ∃ A' o' H', loopW (codeW cw (lookM mtl) mds c55l2) [1, 3, 39, 40, 41] [(1, .ptr 0 0), (3, A), (39, contsA f.conts), (40, litI .i64 f.conts.length), (41, litI .i64 i)] H =
      some (.exit 2, [(1, .ptr 0 0), (3, A'), (39, contsA f.conts), (40, litI .i64 f.conts.length), (41, litI .i64 f.conts.length), (42, litB false)], H') ∧ SlX A' (l ++ (f.conts.drop i).flatMap contL) o' ∧ Own H' (o' ++ d)
  | 0, i, A, l, o, H, h, hl, S, O => by
    have hi : i = f.conts.length := by omega
    subst hi
    refine ⟨A, o, H, loopW_out ?_ (by simp), by rw [List.drop_length]; simpa using S, O⟩
    simp -implicitDefEqProofs only [c55l2, aW, ↓aP, makes, reduceLT, reduceEqDiff, reduceAdd, Int.lt_irrefl]
  | k + 1, i, A, l, o, H, h, hl, S, O => by
    have hi : i < f.conts.length := by omega
    have hg : f.conts[i]? = some f.conts[i] := List.getElem?_eq_getElem hi
    have hlt : (i : Int) < f.conts.length := by omega
    have hmm := hm _ (List.getElem_mem hi)
    have hss := hs _ (List.getElem_mem hi)
    generalize hx : f.conts[i] = m at hg hmm hss
    have hA := load_ipA (H := H) (show (ContV.cs m).length = 9 from rfl)
    have O1 := own_newM O m.cs 90
    obtain ⟨A2, o2, H2, ap, S2, O2⟩ := S.append O1 (RowA.of [m.var, m.guard] (some 2)) (by simp; omega)
    obtain ⟨A3, o3, H3, ap2, S3, O3⟩ := S2.append O2 (RowA.of m.resets none) (by simp; omega)
    have L5 : Ai.load (H ++ [.row m.cs 90]) none (.ptr H.length 5) = some (litI .i64 m.var) := own_load O1 (cs := m.cs) (t := 90) (by simp) rfl
    have L6 : Ai.load (H ++ [.row m.cs 90]) none (.ptr H.length 6) = some (litI .i64 m.guard) := own_load O1 (cs := m.cs) (t := 90) (by simp) rfl
    have L7 : Ai.load (H ++ [.row m.cs 90]) none (.ptr H.length 7) = some (rowC m.resets none) := own_load O1 (cs := m.cs) (t := 90) (by simp) rfl
    have L72 : Ai.load H2 none (.ptr H.length 7) = some (rowC m.resets none) := own_load O2 (cs := m.cs) (t := 90) (by simp) rfl
    have L83 : Ai.load H3 none (.ptr H.length 8) = some (slopesA m.slopes) := own_load O3 (cs := m.cs) (t := 90) (by simp) rfl
    obtain ⟨A4, o4, H4, Ls, S4, O4⟩ := bh1_loop m.slopes hss d (contsA f.conts) (litI .i64 f.conts.length) (litI .i64 i) m.slopes.length 0 A3 _ o3 H3 (by omega) (by simp; omega) S3 (own_drop O3)
    rw [show ((0 : Nat) : Int) = 0 from rfl] at Ls
    rw [List.drop_zero] at S4
    have hsl : (m.slopes.flatMap slopeL).length = 2 * m.slopes.length := by
      induction m.slopes with
      | nil => rfl
      | cons s r ih => simp [slopeL] at ih ⊢; omega
    obtain ⟨A', o', H', L, S', O'⟩ := bh2_loop f hm hs hn d k (i + 1) A4 _ o4 H4 (by omega) (by simp at hsl ⊢; omega) S4 O4
    refine ⟨A', o', H', loopW_round ?_ L, ?_, O'⟩
    · simp -implicitDefEqProofs only [c55l2, aW, ↓aP, makes, reduceLT, reduceEqDiff, reduceAdd, hlt, iadr_conts, hg, hA, cont_st, fadr_ptr, Nat.zero_add, Nat.add_zero, L5, L6, L7, L72, L83, lenV_slopes, core_bsl, bslV_2r, ap.tlS, ap2.tlS, Ls, wrap1 (show i < 4611686018427387904 by omega)]
    · rw [List.drop_eq_getElem_cons hi, List.flatMap_cons, hx, contL]
      simp only [List.append_assoc] at S' ⊢
      exact S'
end
section
variable {call : CallF} {mt : MtF} {md : FuncId → Md}
theorem head_row {r : List Int} (h : r ≠ []) : iadr 1 (rowC r none) (litI .i64 0) = some (.ip [litI .i64 (r.headD 0)]) := by
  have := iadr_row r none 0
  cases r with
  | nil => exact absurd rfl h
  | cons x r => simpa using this
theorem load_ip1 (H : List AO) (a : AV) : Ai.load H none (.ip [a]) = some a := rfl
theorem bh3_loop (ops : List COpV) (hn : ops.length ≤ 100) (ha : ∀ o ∈ ops, isVS o = true → o.args ≠ []) (d : List Obj1) (v72 v73 v74 : AV) : ∀ (k i : Nat) (A : AV) (l : List Int) (o : List Obj1) (H : List AO), k + i = ops.length → l.length + 2 * k ≤ 900000 → SlX A l o → Own H (o ++ d) →
    ∃ A' o' H', loopW (codeW cw (lookM mtl) mds c55l3) [3, 72, 73, 74, 84, 85, 86] [(3, A), (72, v72), (73, v73), (74, v74), (84, copsA ops), (85, litI .i64 ops.length), (86, litI .i64 i)] H =
      some (.exit 8, [(3, A'), (72, v72), (73, v73), (74, v74), (84, copsA ops), (85, litI .i64 ops.length), (86, litI .i64 ops.length), (87, litB false)], H') ∧ SlX A' (l ++ (ops.drop i).flatMap opL) o' ∧ Own H' (o' ++ d)
  | 0, i, A, l, o, H, h, hl, S, O => by
    have hi : i = ops.length := by omega
    subst hi
    refine ⟨A, o, H, loopW_out ?_ (by simp), by rw [List.drop_length]; simpa using S, O⟩
    simp -implicitDefEqProofs only [c55l3, aW, ↓aP, makes, reduceLT, reduceEqDiff, reduceAdd, Int.lt_irrefl]
  | k + 1, i, A, l, o, H, h, hl, S, O => by
    have hi : i < ops.length := by omega
    have hg : ops[i]? = some ops[i] := List.getElem?_eq_getElem hi
    have hlt : (i : Int) < ops.length := by omega
    have haa := ha _ (List.getElem_mem hi)
    generalize hx : ops[i] = m at hg haa
    have hA := load_ipA (H := H) (show (COpV.cs m).length = 2 from rfl)
    have O1 := own_newM O m.cs 94
    have L0 : Ai.load (H ++ [.row m.cs 94]) none (.ptr H.length 0) = some (litS m.op) := own_load O1 (cs := m.cs) (t := 94) (by simp) rfl
    have L1 : Ai.load (H ++ [.row m.cs 94]) none (.ptr H.length 1) = some (rowC m.args none) := own_load O1 (cs := m.cs) (t := 94) (by simp) rfl
    have hw := wrap1 (show i < 4611686018427387904 by omega)
    rw [List.drop_eq_getElem_cons hi, List.flatMap_cons, hx, ← List.append_assoc]
    cases hv : isVS m with
    | false =>
      obtain ⟨A', o', H', L, S', O'⟩ := bh3_loop ops hn ha d v72 v73 v74 k (i + 1) A l o _ (by omega) (by omega) S (own_drop O1)
      refine ⟨A', o', H', loopW_round ?_ L, by rw [show opL m = [] by simp [opL, hv], List.append_nil]; exact S', O'⟩
      unfold isVS at hv
      rw [Bool.or_eq_false_iff] at hv
      simp -implicitDefEqProofs only [c55l3, aW, ↓aP, makes, reduceLT, reduceEqDiff, reduceAdd, hlt, iadr_cops, hg, hA, cop_st, fadr_ptr, Nat.zero_add, Nat.add_zero, L0, bin_isS, hv.1, hv.2, hw]
    | true =>
      obtain ⟨A2, o2, H2, ap, S2, O2⟩ := S.append O1 (RowA.of [m.args.headD 0] (some 1)) (by simp; omega)
      obtain ⟨A', o', H', L, S', O'⟩ := bh3_loop ops hn ha d v72 v73 v74 k (i + 1) A2 _ o2 _ (by omega) (by simp; omega) S2 (own_drop O2)
      refine ⟨A', o', H', loopW_round ?_ L, by rw [show opL m = [m.args.headD 0] by simp [opL, hv]]; exact S', O'⟩
      have hh := head_row (haa hv)
      unfold isVS at hv
      cases h1 : isS m.op [118, 97, 114] with
      | true => simp -implicitDefEqProofs only [c55l3, aW, ↓aP, makes, reduceLT, reduceEqDiff, reduceAdd, hlt, iadr_cops, hg, hA, cop_st, fadr_ptr, Nat.zero_add, Nat.add_zero, L0, L1, hh, load_ip1, core_bsl, bslV_1r, ap.opS, bin_isS, h1, hw]
      | false =>
        rw [h1, Bool.false_or] at hv
        simp -implicitDefEqProofs only [c55l3, aW, ↓aP, makes, reduceLT, reduceEqDiff, reduceAdd, hlt, iadr_cops, hg, hA, cop_st, fadr_ptr, Nat.zero_add, Nat.add_zero, L0, L1, hh, load_ip1, core_bsl, bslV_1r, ap.opS, bin_isS, h1, hv, hw]
theorem opL_short (ops : List COpV) : (ops.flatMap opL).length ≤ ops.length := by
  induction ops with
  | nil => exact Nat.le_refl _
  | cons o r ih =>
    rw [List.flatMap_cons, List.length_append, List.length_cons]
    have : (opL o).length ≤ 1 := by unfold opL; cases isVS o <;> simp
    omega
theorem bh4_loop (f : FlatV) (hm : ∀ m ∈ f.cross, m.ops.length ≤ 100) (hv : ∀ m ∈ f.cross, ∀ o ∈ m.ops, isVS o = true → o.args ≠ []) (hn : f.cross.length ≤ 100) (d : List Obj1) : ∀ (k i : Nat) (A : AV) (l : List Int) (o : List Obj1) (H : List AO), k + i = f.cross.length → l.length + 1000 * k ≤ 800000 → SlX A l o → Own H (o ++ d) →
    ∃ A' o' H', loopW (codeW cw (lookM mtl) mds c55l4) [3, 72, 73, 74] [(3, A), (72, crossA f.cross), (73, litI .i64 f.cross.length), (74, litI .i64 i)] H =
      some (.exit 6, [(3, A'), (72, crossA f.cross), (73, litI .i64 f.cross.length), (74, litI .i64 f.cross.length), (75, litB false)], H') ∧ SlX A' (l ++ (f.cross.drop i).flatMap crossL) o' ∧ Own H' (o' ++ d)
  | 0, i, A, l, o, H, h, hl, S, O => by
    have hi : i = f.cross.length := by omega
    subst hi
    refine ⟨A, o, H, loopW_out ?_ (by simp), by rw [List.drop_length]; simpa using S, O⟩
    simp -implicitDefEqProofs only [c55l4, aW, ↓aP, makes, reduceLT, reduceEqDiff, reduceAdd, Int.lt_irrefl]
  | k + 1, i, A, l, o, H, h, hl, S, O => by
    have hi : i < f.cross.length := by omega
    have hg : f.cross[i]? = some f.cross[i] := List.getElem?_eq_getElem hi
    have hlt : (i : Int) < f.cross.length := by omega
    have hmm := hm _ (List.getElem_mem hi)
    have hvv := hv _ (List.getElem_mem hi)
    generalize hx : f.cross[i] = m at hg hmm hvv
    have hA := load_ipA (H := H) (show (CrossV.cs m).length = 2 from rfl)
    have O1 := own_newM O m.cs 45
    obtain ⟨A2, o2, H2, ap, S2, O2⟩ := S.append O1 (RowA.of [m.guard] (some 1)) (by simp; omega)
    have L0 : Ai.load (H ++ [.row m.cs 45]) none (.ptr H.length 0) = some (litI .i64 m.guard) := own_load O1 (cs := m.cs) (t := 45) (by simp) rfl
    have L12 : Ai.load H2 none (.ptr H.length 1) = some (copsA m.ops) := own_load O2 (cs := m.cs) (t := 45) (by simp) rfl
    obtain ⟨A4, o4, H4, Ls, S4, O4⟩ := bh3_loop m.ops hmm hvv d (crossA f.cross) (litI .i64 f.cross.length) (litI .i64 i) m.ops.length 0 A2 _ o2 H2 (by omega) (by simp; omega) S2 (own_drop O2)
    rw [show ((0 : Nat) : Int) = 0 from rfl] at Ls
    rw [List.drop_zero] at S4
    have hsl := opL_short m.ops
    obtain ⟨A', o', H', L, S', O'⟩ := bh4_loop f hm hv hn d k (i + 1) A4 _ o4 H4 (by omega) (by simp at hsl ⊢; omega) S4 O4
    refine ⟨A', o', H', loopW_round ?_ L, ?_, O'⟩
    · simp -implicitDefEqProofs only [c55l4, aW, ↓aP, makes, reduceLT, reduceEqDiff, reduceAdd, hlt, iadr_cross, hg, hA, cross_st, fadr_ptr, Nat.zero_add, Nat.add_zero, L0, L12, lenV_cops, core_bsl, bslV_1r, ap.opS, Ls, wrap1 (show i < 4611686018427387904 by omega)]
    · rw [List.drop_eq_getElem_cons hi, List.flatMap_cons, hx, crossL]
      simp only [List.append_assoc, List.singleton_append, List.cons_append] at S' ⊢
      exact S'
theorem opsF_VS (f : FlatV) (n : Nat) : ∀ (l : List COpV) (i : Nat), opsF f n i l = true → ∀ o ∈ l, isVS o = true → ∃ x r, o.args = x :: r ∧ 0 ≤ x ∧ x < (n : Int)
  | [], _, _ => by simp
  | o :: l, i, h => by
    rw [opsF, Bool.and_eq_true] at h
    intro o' ho hv
    rcases List.mem_cons.1 ho with rfl | ho
    · have h := h.1
      unfold opOk at h
      cases h1 : isS o'.op [118, 97, 114] with
      | true =>
        rw [h1, cond_true, Bool.and_eq_true] at h
        obtain ⟨h2, h3⟩ := h
        unfold lenI at h2
        cases ha : o'.args with
        | nil => rw [ha] at h2; cases h2
        | cons x r => rw [ha] at h3; exact ⟨x, r, rfl, within_iff.1 h3 x (List.mem_cons_self ..)⟩
      | false =>
        unfold isVS at hv
        rw [h1, Bool.false_or] at hv
        have e1 : isS o'.op [99, 111, 110, 116] = false := isS_ne hv rfl
        have e2 : isS o'.op [110, 101, 103] = false := isS_ne hv rfl
        have e3 : isS o'.op [43] = false := isS_ne hv rfl
        have e4 : isS o'.op [45] = false := isS_ne hv rfl
        have e5 : isS o'.op [47] = false := isS_ne hv rfl
        have e6 : isS o'.op [42] = false := isS_ne hv rfl
        rw [h1, e1, e2, e3, e4, e5, e6, hv] at h
        simp only [cond_false, cond_true, Bool.or_self, Bool.and_eq_true] at h
        obtain ⟨⟨h2, h3⟩, _⟩ := h
        unfold lenI at h2
        cases ha : o'.args with
        | nil => rw [ha] at h2; cases h2
        | cons x r => rw [ha] at h3; exact ⟨x, r, rfl, within_iff.1 h3 x (by simp)⟩
    · exact opsF_VS f n l (i + 1) h.2 o' ho hv
theorem GoodF.vs {f : FlatV} (G : GoodF f) : ∀ m ∈ f.cross, ∀ o ∈ m.ops, isVS o = true → ∃ x r, o.args = x :: r ∧ 0 ≤ x ∧ x < (f.names.length : Int) := by
  intro m hm o ho hv
  have := (G.cross m hm).2
  unfold opsOk at this
  rw [Bool.and_eq_true] at this
  exact opsF_VS f _ m.ops 0 this.1 o ho hv
def behF (f : FlatV) : List Int := (endL f).filter fun x => !decide (x < 0)
theorem lt79_tells (x : Int) : cw 79 [litI .i64 x] [] = some (.ret (litB (decide (x < 0))), []) := by
  refine cw_of fn79 (c := c79) rfl rfl rfl rfl ?_
  simp -implicitDefEqProofs only [c79, aW, ↓aP, makes, reduceLT, reduceEqDiff, reduceAdd]
  rfl
theorem lt79_call (x : Int) (H : List AO) (id : Nat) : callV cw mds 79 [litI .i64 x] H id = some (.val (litB (decide (x < 0))) none) := callV_pure rfl rfl (lt79_tells x) rfl
theorem del79_nil (e : Nat) (H : List AO) (id : Nat) : callV cw mds 76 [.sl e [] (some 0), .fn (.func 79) [] []] H id = some (.wr (.sl e [] (some 0)) H) := by
  have hf : ∀ id, callV cw mds 34 [.sl e [] (some 0), .fn (.func 79) [] []] H id = some (.wr (litI .i64 (-1)) H) := fun id =>
    callV_same rfl (index34p_tells (.sl e [] (some 0)) [] (fun x => decide (x < 0)) (.fn (.func 79) [] []) H ⟨rfl, fun j x h => by cases h⟩ (fun x id => (lt79_call x H id : fnV cw mds (.fn (.func 79) [] []) [litI .i64 x] H id = _)) (by simp)) rfl
  refine callV_same rfl (cw_of fn76 (c := c76) rfl rfl rfl rfl ?_) rfl
  simp -implicitDefEqProofs only [c76, aW, ↓aP, makes, reduceLT, reduceEqDiff, reduceAdd, hf]
  rfl
theorem callV_frz1 {f : FuncId} {args : List AV} {H : List AO} {id : Nat} {A : AV} {l : List Int} {o : List Obj1} {H' : List AO} (hm : mds f = .pure) (hw : args.all wholeA = true) (h : cw f args [] = some (.ret A, H')) (S : SlX A l o) (O : Own H' o) :
    ∃ B, RowA B l ∧ callV cw mds f args H id = some (.val B none) ∧ ∀ H2 id2, callV cw mds f args H2 id2 = some (.val B none) := by
  rcases S with ⟨e, rfl, rfl, rfl⟩ | ⟨p, z, hz, rfl, rfl⟩
  · have e0 : ∀ H2 id2, callV cw mds f args H2 id2 = some (.val (.sl e [] (some 0)) none) := fun H2 id2 => callV_frz hm hw h (ids := []) rfl
    exact ⟨_, RowA.nilE e (some 0), e0 _ _, e0⟩
  · have hp := O.head
    have fz := Ord.frz_ints (H := H') (k := 14) (c := none) hp hz rfl
    have e0 : ∀ H2 id2, callV cw mds f args H2 id2 = some (.val (rowC l none) none) := fun H2 id2 => callV_frz hm hw h fz
    exact ⟨_, RowA.of l none, e0 _ _, e0⟩
theorem endL_len (f : FlatV) (F : FitsS f) : (endL f).length ≤ 1000000 := by
  have e1 := F.mems; have e2 := F.conts; have e3 := F.cross; have e4 := F.outs; have e5 := F.again
  have k1 : (f.mems.flatMap memL).length ≤ 100 * f.mems.length := by
    have hm := F.mres
    generalize f.mems = ms at hm
    induction ms with
    | nil => simp
    | cons m r ih =>
      have h1 := hm m (List.mem_cons_self ..)
      have h2 := ih fun x hx => hm x (List.mem_cons_of_mem _ hx)
      simp only [List.flatMap_cons, List.length_append, memL, List.length_cons, List.length_nil] at h2 ⊢; omega
  have k2 : (f.conts.flatMap contL).length ≤ 300 * f.conts.length := by
    have hm := F.cres
    have hs := F.slopes
    generalize f.conts = ms at hm hs
    induction ms with
    | nil => simp
    | cons m r ih =>
      have h1 := hm m (List.mem_cons_self ..)
      have h3 := hs m (List.mem_cons_self ..)
      have h2 := ih (fun x hx => hm x (List.mem_cons_of_mem _ hx)) (fun x hx => hs x (List.mem_cons_of_mem _ hx))
      have hsl : (m.slopes.flatMap slopeL).length = 2 * m.slopes.length := by
        clear h1 h3 h2 hm hs ih
        induction m.slopes with
        | nil => rfl
        | cons s r ih => simp [slopeL] at ih ⊢; omega
      simp only [List.flatMap_cons, List.length_append, contL, List.length_cons, List.length_nil, hsl] at h2 ⊢; omega
  have k3 : (f.cross.flatMap crossL).length ≤ 100 * f.cross.length := by
    have hm := F.ops
    generalize f.cross = ms at hm
    induction ms with
    | nil => simp
    | cons m r ih =>
      have h1 := hm m (List.mem_cons_self ..)
      have h2 := ih fun x hx => hm x (List.mem_cons_of_mem _ hx)
      have := opL_short m.ops
      simp only [List.flatMap_cons, List.length_append, crossL, List.length_cons] at h2 ⊢; omega
  unfold endL
  simp only [List.length_append]; omega
theorem behind_call (f : FlatV) (F : FitsS f) (hG : goodOk f = true) : ∃ B, RowA B (behF f) ∧ ∀ H id, callV cw mds 55 [flatA f] H id = some (.val B none) := by
  have G := goodF_of hG
  have e1 := F.mems; have e2 := F.conts; have e3 := F.cross; have e4 := F.outs; have e5 := F.again
  have b2 := bslV_r2 [.row f.cs 29] (.sl 0 [] (some 0)) (RowA.of f.outs none) (RowA.of f.again none)
  have O0 : Own [AO.row f.cs 29] [(0, f.cs, 29)] := ⟨by simp, fun x hx => by simp only [List.mem_cons, List.not_mem_nil, or_false] at hx; subst hx; rfl⟩
  have l2 : Ai.load [.row f.cs 29] none (.ptr 0 2) = some (rowC f.outs none) := rfl
  have l7 : Ai.load [.row f.cs 29] none (.ptr 0 7) = some (rowC f.again none) := rfl
  obtain ⟨A, o, H1, ap, S, O⟩ := concat_call [(rowC f.outs none, f.outs), (rowC f.again none, f.again)] (some 2) (fun p hp => by
    simp only [List.mem_cons, List.not_mem_nil, or_false] at hp
    rcases hp with rfl | rfl
    · exact RowA.of _ _
    · exact RowA.of _ _) (by simp) (by simp [Rows.cat]; omega) [.row f.cs 29] _ O0
  rw [show catA [(rowC f.outs none, f.outs), (rowC f.again none, f.again)] (some 2) = .sl 1 [[rowC f.outs none], [rowC f.again none]] (some 2) from rfl] at ap
  rw [show Rows.cat [(rowC f.outs none, f.outs), (rowC f.again none, f.again)] = f.outs ++ f.again by simp [Rows.cat]] at S
  obtain ⟨A1, o1, H2, L1, S1, O1⟩ := bh0_loop f (fun m hm => by have := F.mres m hm; omega) (by omega) [(0, f.cs, 29)] f.mems.length 0 A _ o H1 (by omega) (by simp; omega) S O
  obtain ⟨A2, o2, H3, L2, S2, O2⟩ := bh2_loop f (fun m hm => by have := F.cres m hm; omega) (fun m hm => by have := F.slopes m hm; omega) (by omega) [(0, f.cs, 29)] f.conts.length 0 A1 _ o1 H2 (by omega) (by
    have : (f.mems.flatMap memL).length ≤ 100 * f.mems.length := by
      have hm := F.mres
      generalize f.mems = ms at hm
      induction ms with
      | nil => simp
      | cons m r ih =>
        have h1 := hm m (List.mem_cons_self ..)
        have h2 := ih fun x hx => hm x (List.mem_cons_of_mem _ hx)
        simp only [List.flatMap_cons, List.length_append, memL, List.length_cons, List.length_nil] at h2 ⊢; omega
    rw [List.drop_zero, List.length_append, List.length_append]; omega) S1 O1
  obtain ⟨A3, o3, H4, L3, S3, O3⟩ := bh4_loop f (fun m hm => by have := F.ops m hm; omega) (fun m hm o ho hv => by obtain ⟨x, r, e, _⟩ := G.vs m hm o ho hv; rw [e]; simp) (by omega) [(0, f.cs, 29)] f.cross.length 0 A2 _ o2 H3 (by omega) (by
    have k1 : (f.mems.flatMap memL).length ≤ 100 * f.mems.length := by
      have hm := F.mres
      generalize f.mems = ms at hm
      induction ms with
      | nil => simp
      | cons m r ih =>
        have h1 := hm m (List.mem_cons_self ..)
        have h2 := ih fun x hx => hm x (List.mem_cons_of_mem _ hx)
        simp only [List.flatMap_cons, List.length_append, memL, List.length_cons, List.length_nil] at h2 ⊢; omega
    have k2 : (f.conts.flatMap contL).length ≤ 300 * f.conts.length := by
      have hm := F.cres
      have hs := F.slopes
      generalize f.conts = ms at hm hs
      induction ms with
      | nil => simp
      | cons m r ih =>
        have h1 := hm m (List.mem_cons_self ..)
        have h3 := hs m (List.mem_cons_self ..)
        have h2 := ih (fun x hx => hm x (List.mem_cons_of_mem _ hx)) (fun x hx => hs x (List.mem_cons_of_mem _ hx))
        have hsl : (m.slopes.flatMap slopeL).length = 2 * m.slopes.length := by
          clear h1 h3 h2 hm hs ih
          induction m.slopes with
          | nil => rfl
          | cons s r ih => simp [slopeL] at ih ⊢; omega
        simp only [List.flatMap_cons, List.length_append, contL, List.length_cons, List.length_nil, hsl] at h2 ⊢; omega
    rw [List.drop_zero, List.drop_zero, List.length_append, List.length_append, List.length_append]; omega) S2 O2
  rw [show ((0 : Nat) : Int) = 0 from rfl] at L1 L2 L3
  rw [List.drop_zero, List.drop_zero, List.drop_zero] at S3
  change SlX A3 (endL f) o3 at S3
  have hel := endL_len f F
  have l4 : Ai.load H1 none (.ptr 0 4) = some (memsA f.mems) := own_load O (cs := f.cs) (t := 29) (by simp) rfl
  have l5 : Ai.load H2 none (.ptr 0 5) = some (contsA f.conts) := own_load O1 (cs := f.cs) (t := 29) (by simp) rfl
  have l6 : Ai.load H3 none (.ptr 0 6) = some (crossA f.cross) := own_load O2 (cs := f.cs) (t := 29) (by simp) rfl
  have fin : ∃ A5 o5 H5, (∀ id, callV cw mds 76 [A3, .fn (.func 79) [] []] H4 id = some (.wr A5 H5)) ∧ SlX A5 (behF f) o5 ∧ Own H5 o5 := by
    rcases S3 with ⟨e, rfl, h0, rfl⟩ | ⟨p, z, hz, rfl, rfl⟩
    · refine ⟨_, [], H4, fun id => del79_nil e H4 id, ?_, Own.nil⟩
      unfold behF; rw [h0]; exact SlX.nil e
    · obtain ⟨z', H5, h, h1, h2, h3⟩ := del_tells (p := fun x => decide (x < 0)) (fv := .fn (.func 79) [] []) hz (fun x H id => (lt79_call x H id : fnV cw mds (.fn (.func 79) [] []) [litI .i64 x] H id = _)) hel (by rw [List.singleton_append] at O3; exact O3)
      exact ⟨_, _, H5, fun id => callV_same rfl h h2, SlX.own p _ z' h1, h3.sub (by simp)⟩
  obtain ⟨A5, o5, H5, cD, S5, O5⟩ := fin
  simp only [List.length_cons, List.length_nil, Nat.zero_add] at ap
  have told : cw 55 [flatA f] [] = some (.ret A5, H5) := by
    refine cw_of fn55 (c := c55) rfl rfl rfl rfl ?_
    simp -implicitDefEqProofs only [c55, aW, ↓aP, makes, reduceLT, reduceEqDiff, reduceAdd, core_box, flat_f, List.length_nil, List.length_cons, fadr_ptr, Nat.zero_add, l2, l7, core_bsl, b2, ap.opS, l4, lenV_mems, L1, l5, lenV_conts, L2, l6, lenV_cross, L3, cD]
    rfl
  obtain ⟨B, h1, _, h2⟩ := callV_frz1 (H := []) (id := 0) rfl rfl told S5 O5
  exact ⟨B, h1, h2⟩
end
section
variable {call : CallF} {mt : MtF} {md : FuncId → Md}
theorem setN_rows (g : Eqn → List Int) (P : List Int → Prop) : ∀ (l : List Eqn) (rows : List (List Int)), (∀ r ∈ rows, P r) → (∀ q ∈ l, P (g q)) → ∀ r ∈ setN g rows l, P r
  | [], rows, h, _ => h
  | q :: l, rows, h, hq => by
    rw [setN]
    refine setN_rows g P l _ (fun r hr => ?_) fun q' hq' => hq q' (List.mem_cons_of_mem _ hq')
    rcases List.mem_or_eq_of_mem_set hr with hr | rfl
    · exact h r hr
    · exact hq q (List.mem_cons_self ..)
theorem begF_len (f : FlatV) (F : FitsS f) (q : Eqn) (K : KOk f q) : (begF f q).length ≤ 20 := by
  unfold begF
  cases hm : isS q.op [109, 101, 109] with
  | true =>
    obtain ⟨m, h1, _, h3⟩ := iadr_memsI (K.m hm)
    rw [cond_true, h3]; exact F.mres m (List.mem_of_getElem? h1)
  | false =>
    cases hk : isS q.op [99, 111, 110, 116] with
    | true =>
      obtain ⟨m, h1, _, h3⟩ := iadr_contsI (K.k hk)
      rw [cond_false, cond_true, h3]; exact F.cres m (List.mem_of_getElem? h1)
    | false => exact Nat.zero_le _
theorem needC_len (f : FlatV) (F : FitsS f) (q : Eqn) (hq : q ∈ f.eqs) (K : KOk f q) : (needC f q).length ≤ 51 := by
  unfold needC
  have h1 := List.length_filter_le (fun x => !decide (x < 0)) (compI' (sortI (q.args ++ begF f q ++ [q.guard])))
  have h2 := compI_len (sortI (q.args ++ begF f q ++ [q.guard]))
  rw [sortI_len] at h2
  have h3 := F.args q hq
  have h4 := begF_len f F q K
  simp only [List.length_append, List.length_cons, List.length_nil] at h2
  omega
theorem NC_few (f : FlatV) (F : FitsS f) (G : GoodF f) : Ord.fewG (NC f) = true := by
  simp only [Ord.fewG, Bool.and_eq_true, decide_eq_true_eq, List.all_eq_true]
  have e := F.eqs
  have := G.len
  refine ⟨by rw [NC_len]; omega, ?_⟩
  refine setN_rows (needC f) (fun r => r.length ≤ 60) f.eqs _ (fun r hr => by rw [List.eq_of_mem_replicate hr]; simp) fun q hq => ?_
  have := needC_len f F q hq (G.kok q hq)
  omega
def ordL (g : List (List Int)) : List Int := if Ord.okL g = true then Ord.outL g else []
theorem slrow {A : AV} {l : List Int} {o : List Obj1} (h : Ord.Sl A l o) : SlX A l o := by
  rcases h with ⟨rfl, rfl, rfl⟩ | ⟨p, z, hz, rfl, rfl⟩
  · exact SlX.nil 0
  · exact SlX.own p l z hz
theorem slx_frz {A : AV} {l : List Int} {o : List Obj1} {H : List AO} {k : Nat} (S : SlX A l o) (O : ∀ x ∈ o, H[x.1]? = some (.row x.2.1 x.2.2)) : ∃ B ids, frz H (k + 2) A = some (B, ids) ∧ RowA B l := by
  rcases S with ⟨e, rfl, rfl, rfl⟩ | ⟨p, z, hz, rfl, rfl⟩
  · exact ⟨_, [], rfl, RowA.nilE e (some 0)⟩
  · exact ⟨_, _, Ord.frz_ints (H := H) (k := k) (c := none) (O (p, cellsI l ++ z, 3) (by simp)) hz rfl, RowA.of l none⟩
theorem gorder_call (cs : Nat → Option Nat) (cc : Option Nat) (g : List (List Int)) (hf : Ord.fewG g = true) : ∃ B, RowA B (ordL g) ∧ ∀ H id, callV cw mds 53 [Ord.gX cs cc g] H id = some (.val (.tup [B, litB (Ord.okL g)]) none) := by
  obtain ⟨A, o, d, H', h, S, O⟩ := Ord.order_tells (cs := cs) (cc := cc) g hf
  obtain ⟨B, ids, fz, hB⟩ := slx_frz (H := H') (k := 13) (slrow S) (fun x hx => O.get x (List.mem_append_left _ hx))
  refine ⟨B, hB, fun H id => callV_frz rfl rfl h (ids := ids ++ ([] ++ [])) ?_⟩
  rw [show frzF = 13 + 2 + 1 from rfl, frz]
  simp only [mapL, fz, Option.bind_some]
  rfl
theorem callV_tup {f : FuncId} {args : List AV} {H H' : List AO} {id : Nat} {B : AV} {l : List Int} {v : Value} (hm : mds f = .pure) (hw : args.all wholeA = true) (h : cw f args [] = some (.ret (.tup [B, .lit v]), H')) (hB : RowA B l) : callV cw mds f args H id = some (.val (.tup [B, .lit v]) none) := by
  obtain ⟨e, xs, c, rfl⟩ := hB.cases
  exact callV_frz hm hw h (ids := []) rfl
def errA : Bool → Bool → Int
  | false, _ => 1
  | true, false => 140
  | true, true => 0
theorem corder_call (f : FlatV) (F : FitsS f) : ∃ B, RowA B (if goodOk f = true then ordL (NC f) else []) ∧ ∀ H id, callV cw mds 32 [flatA f] H id = some (.val (.tup [B, litI .i64 (errA (goodOk f) (Ord.okL (NC f)))]) none) := by
  have hgc : ∀ H id, callV cw mds 37 [.agg f.cs] H id = some (.val (litB (goodOk f)) none) := fun H id => good_call f F.fits H id
  have lA : Ai.load [.row f.cs 29] (some 8) (.ptr 0 0) = some (.agg f.cs) := load_agg rfl rfl
  cases hG : goodOk f with
  | false =>
    rw [hG] at hgc
    refine ⟨_, RowA.nil, fun H id => callV_tup rfl rfl (H' := [.row f.cs 29]) ?_ RowA.nil⟩
    refine cw_of fn32 (c := c32) rfl rfl rfl rfl ?_
    simp -implicitDefEqProofs only [c32, aW, ↓aP, makes, reduceLT, reduceEqDiff, reduceAdd, core_box, flat_f, List.length_nil, lA, hgc]
    rfl
  | true =>
    rw [hG] at hgc
    have hN : ∀ H id, callV cw mds 54 [.agg f.cs] H id = some (.val (ncA f) none) := needs54_call f F hG
    obtain ⟨B, hB, hO⟩ := gorder_call (fun _ => none) (some f.names.length) (NC f) (NC_few f F (goodF_of hG))
    rw [if_pos rfl]
    cases hk : Ord.okL (NC f) with
    | false =>
      rw [hk] at hO
      refine ⟨_, by rw [show ordL (NC f) = [] by simp [ordL, hk]]; exact RowA.nil, fun H id => callV_tup rfl rfl (H' := [.row f.cs 29]) ?_ RowA.nil⟩
      refine cw_of fn32 (c := c32) rfl rfl rfl rfl ?_
      simp -implicitDefEqProofs only [c32, aW, ↓aP, makes, reduceLT, reduceEqDiff, reduceAdd, core_box, flat_f, List.length_nil, lA, hgc, hN, hO]
      rfl
    | true =>
      rw [hk] at hO
      refine ⟨B, hB, fun H id => callV_tup rfl rfl (H' := [.row f.cs 29]) ?_ hB⟩
      refine cw_of fn32 (c := c32) rfl rfl rfl rfl ?_
      simp -implicitDefEqProofs only [c32, aW, ↓aP, makes, reduceLT, reduceEqDiff, reduceAdd, core_box, flat_f, List.length_nil, lA, hgc, hN, hO]
      rfl
end
section
variable {call : CallF} {mt : MtF} {md : FuncId → Md}
theorem core_maxi2 {H : List AO} {id : Nat} {fr : Fr} (s t : Nat) (k : IntKind) (a b : Int) (h1 : get fr s = litI k a) (h2 : get fr t = litI k b) : core call mt md H id (.maxi [.s s, .s t]) fr = some (.val (litI k (max a b)) none) := by
  simp only [core, List.map_cons, List.map_nil, ev, h1, h2]
  simp only [litI, foldI, List.foldl_cons, List.foldl_nil, foldS, Option.bind_some]
  congr 3
  by_cases h : b > a
  · simp only [h, decide_true, cond_true]; congr 1; omega
  · simp only [h, decide_false, cond_false]; congr 1; omega
def setAll (r : List Int) : Nat → List Int → List Int
  | _, [] => r
  | i, v :: l => setAll (r.set v.toNat i) (i + 1) l
theorem setAll_len : ∀ (l : List Int) (r : List Int) (i : Nat), (setAll r i l).length = r.length
  | [], _, _ => rfl
  | v :: l, r, i => by rw [setAll, setAll_len l]; simp
def maxK (fv : Int) : List Int → List Int → List Int
  | last, [] => last
  | last, k :: r => maxK fv (last.set k.toNat (max (last.getD k.toNat 0) fv)) r
theorem maxK_len (fv : Int) : ∀ (r last : List Int), (maxK fv last r).length = last.length
  | [], _ => rfl
  | k :: r, last => by rw [maxK, maxK_len fv r]; simp
def maxV (first : List Int) : Nat → List Int → List (List Int) → List Int
  | _, last, [] => last
  | v, last, row :: g => maxV first (v + 1) (maxK (first.getD v 0) last row) g
theorem maxV_len (first : List Int) : ∀ (g : List (List Int)) (v : Nat) (last : List Int), (maxV first v last g).length = last.length
  | [], _, _ => rfl
  | row :: g, v, last => by rw [maxV, maxV_len first g, maxK_len]
def endK (n : Int) : List Int → List Int → List Int
  | last, [] => last
  | last, v :: r => endK n (last.set v.toNat n) r
theorem endK_len (n : Int) : ∀ (r last : List Int), (endK n last r).length = last.length
  | [], _ => rfl
  | k :: r, last => by rw [endK, endK_len n r]; simp
section
variable {H : List AO} {p a b n : Nat} {first last : List Int} {d : List Obj1}
abbrev lv (p a b n : Nat) (first last : List Int) : List Obj1 := [(a, cellsI first, 3), (b, cellsI last, 3), (p, [.own a 0 n 1 (some n), .own b 0 n 1 (some n)], 76)]
theorem lv_0 (O : Own H (lv p a b n first last ++ d)) : Ai.load H none (.ptr p 0) = some (.own a 0 n 1 (some n)) := own_load O (cs := [.own a 0 n 1 (some n), .own b 0 n 1 (some n)]) (t := 76) (by simp) rfl
theorem lv_1 (O : Own H (lv p a b n first last ++ d)) : Ai.load H none (.ptr p 1) = some (.own b 0 n 1 (some n)) := own_load O (cs := [.own a 0 n 1 (some n), .own b 0 n 1 (some n)]) (t := 76) (by simp) rfl
theorem lv_a (O : Own H (lv p a b n first last ++ d)) {v : Nat} (hv : v < first.length) : Ai.load H none (.ptr a v) = some (litI .i64 (first.getD v 0)) := own_load O (cs := cellsI first) (t := 3) (by simp) (by rw [cellsI_at, Ord.getI hv]; rfl)
theorem lv_b (O : Own H (lv p a b n first last ++ d)) {v : Nat} (hv : v < last.length) : Ai.load H none (.ptr b v) = some (litI .i64 (last.getD v 0)) := own_load O (cs := cellsI last) (t := 3) (by simp) (by rw [cellsI_at, Ord.getI hv]; rfl)
theorem lv_sa (O : Own H (lv p a b n first last ++ d)) {v : Nat} (hv : v < first.length) (x : Int) : ∃ H', storeAt H 1 (.ptr a v) (litI .i64 x) = some H' ∧ Own H' (lv p a b n (first.set v x) last ++ d) := by
  refine ⟨_, store_ptr O.head (by rw [cellsI_len]; omega) rfl rfl, ?_⟩
  have e : (cellsI first).set v (litI .i64 x) = cellsI (first.set v x) := by simp [cellsI]
  rw [e]; exact O.set _ 3
theorem lv_sb (O : Own H (lv p a b n first last ++ d)) {v : Nat} (hv : v < last.length) (x : Int) : ∃ H', storeAt H 1 (.ptr b v) (litI .i64 x) = some H' ∧ Own H' (lv p a b n first (last.set v x) ++ d) := by
  have O0 : Own H ((a, cellsI first, 3) :: (b, cellsI last, 3) :: ((p, [.own a 0 n 1 (some n), .own b 0 n 1 (some n)], 76) :: d)) := O
  have O' : Own H ((b, cellsI last, 3) :: (a, cellsI first, 3) :: ((p, [.own a 0 n 1 (some n), .own b 0 n 1 (some n)], 76) :: d)) := O0.perm (List.Perm.swap ..)
  refine ⟨_, store_ptr O'.head (by rw [cellsI_len]; omega) rfl rfl, ?_⟩
  have e : (cellsI last).set v (litI .i64 x) = cellsI (last.set v x) := by simp [cellsI]
  rw [e]
  have O1 := (O'.set (cellsI (last.set v x)) 3).perm (List.Perm.swap ..)
  exact O1
end
theorem iadr_ownI {r n : Nat} {c : Option Nat} {x : Int} (h0 : 0 ≤ x) (h1 : x < (n : Int)) : iadr 1 (.own r 0 n 1 c) (litI .i64 x) = some (.ptr r x.toNat) := by
  rw [iadr_own, if_pos ⟨h0, h1⟩]; simp
theorem of_loop0 (f2 f4 : AV) (B : AV) (ord : List Int) (hB : RowA B ord) (p a b n : Nat) (d : List Obj1) (hn : ord.length ≤ 1000000) (hr : ∀ x ∈ ord, 0 ≤ x ∧ x < (n : Int)) : ∀ (m i : Nat) (first last : List Int) (H : List AO), m + i = ord.length → first.length = n → last.length = n → Own H (lv p a b n first last ++ d) →
    ∃ H', loopW (codeW cw (lookM mtl) mds c33l0) [1, 2, 4, 5, 21, 22, 23] [(1, B), (2, f2), (4, f4), (5, .ptr p 0), (21, B), (22, litI .i64 ord.length), (23, litI .i64 i)] H =
      some (.exit 0, [(1, B), (2, f2), (4, f4), (5, .ptr p 0), (21, B), (22, litI .i64 ord.length), (23, litI .i64 ord.length), (24, litB false)], H') ∧ Own H' (lv p a b n (setAll first i (ord.drop i)) (setAll last i (ord.drop i)) ++ d)
  | 0, i, first, last, H, h, h1, h2, O => by
    have hi : i = ord.length := by omega
    subst hi
    refine ⟨H, loopW_out ?_ (by simp), by rw [List.drop_length]; exact O⟩
    simp -implicitDefEqProofs only [c33l0, aW, ↓aP, makes, reduceLT, reduceEqDiff, reduceAdd, Int.lt_irrefl]
  | m + 1, i, first, last, H, h, h1, h2, O => by
    have hi : i < ord.length := by omega
    have hg : ord[i]? = some ord[i] := List.getElem?_eq_getElem hi
    have hlt : (i : Int) < ord.length := by omega
    have hx := hr _ (List.getElem_mem hi)
    rw [List.drop_eq_getElem_cons hi, setAll, setAll]
    generalize ord[i] = v at hg hx
    have hvn : v.toNat < n := by omega
    obtain ⟨H1, s1, O1⟩ := lv_sa O (v := v.toNat) (by omega) i
    obtain ⟨H2, s2, O2⟩ := lv_sb O1 (v := v.toNat) (by omega) i
    obtain ⟨H', L, O'⟩ := of_loop0 f2 f4 B ord hB p a b n d hn hr m (i + 1) _ _ H2 (by omega) (by simpa using h1) (by simpa using h2) O2
    refine ⟨H', loopW_round ?_ L, O'⟩
    simp -implicitDefEqProofs only [c33l0, aW, ↓aP, makes, reduceLT, reduceEqDiff, reduceAdd, hlt, hB.iadr hg, fadr_ptr, Nat.zero_add, lv_0 O, lv_1 O, lv_1 O1, lv_1 O2, iadr_ownI hx.1 hx.2, s1, s2, wrap1 (show i < 4611686018427387904 by omega)]
theorem of_loop1 (f1 f2 f4 f40 f41 f42 : AV) (row : List Int) (v : Nat) (p a b n : Nat) (d : List Obj1) (first : List Int) (hf : first.length = n) (hv : v < n) (hn : row.length ≤ 1000000) (hr : ∀ x ∈ row, 0 ≤ x ∧ x < (n : Int)) : ∀ (m i : Nat) (last : List Int) (H : List AO), m + i = row.length → last.length = n → Own H (lv p a b n first last ++ d) →
    ∃ H', loopW (codeW cw (lookM mtl) mds c33l1) [1, 2, 4, 5, 8, 40, 41, 42, 47, 48, 49] [(1, f1), (2, f2), (4, f4), (5, .ptr p 0), (8, litI .i64 v), (40, f40), (41, f41), (42, f42), (47, rowC row none), (48, litI .i64 row.length), (49, litI .i64 i)] H =
      some (.exit 4, [(1, f1), (2, f2), (4, f4), (5, .ptr p 0), (8, litI .i64 v), (40, f40), (41, f41), (42, f42), (47, rowC row none), (48, litI .i64 row.length), (49, litI .i64 row.length), (50, litB false)], H') ∧ Own H' (lv p a b n first (maxK (first.getD v 0) last (row.drop i)) ++ d)
  | 0, i, last, H, h, h2, O => by
    have hi : i = row.length := by omega
    subst hi
    refine ⟨H, loopW_out ?_ (by simp), by rw [List.drop_length]; exact O⟩
    simp -implicitDefEqProofs only [c33l1, aW, ↓aP, makes, reduceLT, reduceEqDiff, reduceAdd, Int.lt_irrefl]
  | m + 1, i, last, H, h, h2, O => by
    have hi : i < row.length := by omega
    have hg : row[i]? = some row[i] := List.getElem?_eq_getElem hi
    have hlt : (i : Int) < row.length := by omega
    have hx := hr _ (List.getElem_mem hi)
    rw [List.drop_eq_getElem_cons hi, maxK]
    generalize row[i] = k at hg hx
    have hkn : k.toNat < n := by omega
    obtain ⟨H1, s1, O1⟩ := lv_sb O (v := k.toNat) (by omega) (max (last.getD k.toNat 0) (first.getD v 0))
    obtain ⟨H', L, O'⟩ := of_loop1 f1 f2 f4 f40 f41 f42 row v p a b n d first hf hv hn hr m (i + 1) _ H1 (by omega) (by simpa using h2) O1
    refine ⟨H', loopW_round ?_ L, O'⟩
    have iv := iadr_ownI (r := a) (n := n) (c := some n) (x := v) (by omega) (by omega)
    rw [Int.toNat_natCast] at iv
    have la := lv_a O (v := v) (by omega)
    have lb := lv_b O (v := k.toNat) (by omega)
    simp -implicitDefEqProofs only [c33l1, aW, ↓aP, makes, reduceLT, reduceEqDiff, reduceAdd, hlt, iadr_row, hg, fadr_ptr, Nat.zero_add, lv_0 O, lv_1 O, iadr_ownI hx.1 hx.2, iv, la, lb, core_maxi2 60 65 .i64 (last.getD k.toNat 0) (first.getD v 0), s1, wrap1 (show i < 4611686018427387904 by omega)]
theorem of_loop2 (f1 f2 f4 : AV) (g : List (List Int)) (cs : Nat → Option Nat) (cc : Option Nat) (hcs : ∀ i, cs i = none) (p a b n : Nat) (d : List Obj1) (first : List Int) (hf : first.length = n) (hgn : g.length = n) (hn : n ≤ 1000000) (hl : ∀ r ∈ g, r.length ≤ 1000000) (hr : ∀ r ∈ g, ∀ x ∈ r, 0 ≤ x ∧ x < (n : Int)) : ∀ (m i : Nat) (last : List Int) (H : List AO), m + i = g.length → last.length = n → Own H (lv p a b n first last ++ d) →
    ∃ H', loopW (codeW cw (lookM mtl) mds c33l2) [1, 2, 4, 5, 40, 41, 42] [(1, f1), (2, f2), (4, f4), (5, .ptr p 0), (40, Ord.gX cs cc g), (41, litI .i64 g.length), (42, litI .i64 i)] H =
      some (.exit 2, [(1, f1), (2, f2), (4, f4), (5, .ptr p 0), (40, Ord.gX cs cc g), (41, litI .i64 g.length), (42, litI .i64 g.length), (43, litB false)], H') ∧ Own H' (lv p a b n first (maxV first i last (g.drop i)) ++ d)
  | 0, i, last, H, h, h2, O => by
    have hi : i = g.length := by omega
    subst hi
    refine ⟨H, loopW_out ?_ (by simp), by rw [List.drop_length]; exact O⟩
    simp -implicitDefEqProofs only [c33l2, aW, ↓aP, makes, reduceLT, reduceEqDiff, reduceAdd, Int.lt_irrefl]
  | m + 1, i, last, H, h, h2, O => by
    have hi : i < g.length := by omega
    have hg : g[i]? = some g[i] := List.getElem?_eq_getElem hi
    have hlt : (i : Int) < g.length := by omega
    have hx := hr _ (List.getElem_mem hi)
    have hll := hl _ (List.getElem_mem hi)
    rw [List.drop_eq_getElem_cons hi, maxV]
    generalize g[i] = row at hg hx hll
    obtain ⟨H1, L1, O1⟩ := of_loop1 f1 f2 f4 (Ord.gX cs cc g) (litI .i64 g.length) (litI .i64 i) row i p a b n d first hf (by omega) hll hx row.length 0 last H (by omega) h2 O
    rw [show ((0 : Nat) : Int) = 0 from rfl] at L1
    rw [List.drop_zero] at O1
    obtain ⟨H', L, O'⟩ := of_loop2 f1 f2 f4 g cs cc hcs p a b n d first hf hgn hn hl hr m (i + 1) _ H1 (by omega) (by rw [maxK_len]; exact h2) O1
    refine ⟨H', loopW_round ?_ L, O'⟩
    simp -implicitDefEqProofs only [c33l2, aW, ↓aP, makes, reduceLT, reduceEqDiff, reduceAdd, hlt, Ord.iadr_gX, hg, hcs, lenV_row, L1, wrap1 (show i < 4611686018427387904 by omega)]
theorem of_loop3 (B B2 f4 : AV) (ord beh : List Int) (hB : RowA B ord) (hB2 : RowA B2 beh) (p a b n : Nat) (d : List Obj1) (first : List Int) (hn : beh.length ≤ 1000000) (hr : ∀ x ∈ beh, 0 ≤ x ∧ x < (n : Int)) : ∀ (m i : Nat) (last : List Int) (H : List AO), m + i = beh.length → last.length = n → Own H (lv p a b n first last ++ d) →
    ∃ H', loopW (codeW cw (lookM mtl) mds c33l3) [1, 4, 5, 71, 72, 73] [(1, B), (4, f4), (5, .ptr p 0), (71, B2), (72, litI .i64 beh.length), (73, litI .i64 i)] H =
      some (.exit 6, [(1, B), (4, f4), (5, .ptr p 0), (71, B2), (72, litI .i64 beh.length), (73, litI .i64 beh.length), (74, litB false)], H') ∧ Own H' (lv p a b n first (endK ord.length last (beh.drop i)) ++ d)
  | 0, i, last, H, h, h2, O => by
    have hi : i = beh.length := by omega
    subst hi
    refine ⟨H, loopW_out ?_ (by simp), by rw [List.drop_length]; exact O⟩
    simp -implicitDefEqProofs only [c33l3, aW, ↓aP, makes, reduceLT, reduceEqDiff, reduceAdd, Int.lt_irrefl]
  | m + 1, i, last, H, h, h2, O => by
    have hi : i < beh.length := by omega
    have hg : beh[i]? = some beh[i] := List.getElem?_eq_getElem hi
    have hlt : (i : Int) < beh.length := by omega
    have hx := hr _ (List.getElem_mem hi)
    rw [List.drop_eq_getElem_cons hi, endK]
    generalize beh[i] = v at hg hx
    obtain ⟨H1, s1, O1⟩ := lv_sb O (v := v.toNat) (by omega) ord.length
    obtain ⟨H', L, O'⟩ := of_loop3 B B2 f4 ord beh hB hB2 p a b n d first hn hr m (i + 1) _ H1 (by omega) (by simpa using h2) O1
    refine ⟨H', loopW_round ?_ L, O'⟩
    simp -implicitDefEqProofs only [c33l3, aW, ↓aP, makes, reduceLT, reduceEqDiff, reduceAdd, hlt, hB2.iadr hg, hB.lenV, fadr_ptr, Nat.zero_add, lv_1 O, iadr_ownI hx.1 hx.2, s1, wrap1 (show i < 4611686018427387904 by omega)]
theorem NC_rng (f : FlatV) (F : FitsS f) (G : GoodF f) : ∀ r ∈ NC f, ∀ x ∈ r, 0 ≤ x ∧ x < (f.names.length : Int) := by
  refine setN_rows (needC f) (fun r => ∀ x ∈ r, 0 ≤ x ∧ x < (f.names.length : Int)) f.eqs _ (fun r hr => by rw [List.eq_of_mem_replicate hr]; simp) fun q hq x hx => ?_
  unfold needC at hx
  rw [List.mem_filter, Ord.mem_compI, Ord.mem_sortI] at hx
  obtain ⟨h1, h2⟩ := hx
  simp only [Bool.not_eq_true', decide_eq_false_iff_not] at h2
  refine ⟨by omega, ?_⟩
  rw [List.mem_append, List.mem_append] at h1
  rcases h1 with (h1 | h1) | h1
  · exact (G.args q hq x h1).2
  · unfold begF at h1
    cases hm : isS q.op [109, 101, 109] with
    | true =>
      obtain ⟨m, k1, _, k3⟩ := iadr_memsI ((G.kok q hq).m hm)
      rw [hm, cond_true, k3] at h1
      exact ((G.mems m (List.mem_of_getElem? k1)).2.2 x h1).2
    | false =>
      cases hk : isS q.op [99, 111, 110, 116] with
      | true =>
        obtain ⟨m, k1, _, k3⟩ := iadr_contsI ((G.kok q hq).k hk)
        rw [hm, hk, cond_false, cond_true, k3] at h1
        exact ((G.conts m (List.mem_of_getElem? k1)).2.2.1 x h1).2
      | false => rw [hm, hk] at h1; cases h1
  · simp only [List.mem_cons, List.not_mem_nil, or_false] at h1
    rw [h1]; exact G.guard q hq
theorem NC_60 (f : FlatV) (F : FitsS f) (G : GoodF f) : ∀ r ∈ NC f, r.length ≤ 60 := by
  have := NC_few f F G
  simp only [Ord.fewG, Bool.and_eq_true, decide_eq_true_eq, List.all_eq_true] at this
  exact this.2
theorem endL_rng (f : FlatV) (G : GoodF f) : ∀ x ∈ endL f, x < (f.names.length : Int) := by
  intro x hx
  simp only [endL, List.mem_append, List.mem_flatMap] at hx
  rcases hx with (((hx | hx) | ⟨m, hm, hx⟩) | ⟨m, hm, hx⟩) | ⟨m, hm, hx⟩
  · exact (G.outs x hx).2
  · exact (G.again x hx).2
  · obtain ⟨h1, h2, h3⟩ := G.mems m hm
    simp only [memL, List.mem_append, List.mem_cons, List.not_mem_nil, or_false] at hx
    rcases hx with (rfl | rfl) | hx
    · exact h1.2
    · exact h2
    · exact (h3 x hx).2
  · obtain ⟨h1, h2, h3, h4⟩ := G.conts m hm
    simp only [contL, List.mem_append, List.mem_cons, List.not_mem_nil, or_false, List.mem_flatMap, slopeL] at hx
    rcases hx with ((rfl | rfl) | hx) | ⟨s, hs, rfl | rfl⟩
    · exact h1.2
    · exact h2
    · exact (h3 x hx).2
    · exact (h4 s hs).2
    · exact (h4 s hs).1.2
  · simp only [crossL, List.mem_cons, List.mem_flatMap] at hx
    rcases hx with rfl | ⟨o, ho, hx⟩
    · exact (G.cross m hm).1
    · unfold opL at hx
      cases hv : isVS o with
      | false => rw [hv] at hx; cases hx
      | true =>
        obtain ⟨y, r, e, h1, h2⟩ := G.vs m hm o ho hv
        rw [hv, e] at hx
        simp only [cond_true, List.headD_cons, List.mem_cons, List.not_mem_nil, or_false] at hx
        rw [hx]; exact h2
theorem behF_rng (f : FlatV) (G : GoodF f) : ∀ x ∈ behF f, 0 ≤ x ∧ x < (f.names.length : Int) := by
  intro x hx
  unfold behF at hx
  rw [List.mem_filter] at hx
  have := hx.2
  simp only [Bool.not_eq_true', decide_eq_false_iff_not] at this
  exact ⟨by omega, endL_rng f G x hx.1⟩
def firstF (ord : List Int) : List Int := setAll (List.replicate ord.length 0) 0 ord
def lastF (f : FlatV) (ord : List Int) : List Int := endK ord.length (maxV (firstF ord) 0 (firstF ord) (NC f)) (behF f)
theorem firstF_len (ord : List Int) : (firstF ord).length = ord.length := by unfold firstF; rw [setAll_len]; simp
theorem lastF_len (f : FlatV) (ord : List Int) : (lastF f ord).length = ord.length := by unfold lastF; rw [endK_len, maxV_len, firstF_len]
theorem of_call (f : FlatV) (F : FitsS f) (hG : goodOk f = true) {B : AV} {ord : List Int} (hB : RowA B ord) (hl : ord.length = f.names.length) (hr : ∀ x ∈ ord, 0 ≤ x ∧ x < (f.names.length : Int)) (H : List AO) (id : Nat) :
    callV cw mds 33 [flatA f, B] H id = some (.val (.agg [rowC (firstF ord) (some ord.length), rowC (lastF f ord) (some ord.length)]) none) := by
  have G := goodF_of hG
  have hnn := F.names
  have hN : ∀ H id, callV cw mds 54 [.agg f.cs] H id = some (.val (ncA f) none) := needs54_call f F hG
  obtain ⟨B2, hB2, hbeh⟩ := behind_call f F hG
  have hbc : ∀ H id, callV cw mds 55 [.agg f.cs] H id = some (.val B2 none) := hbeh
  have hm1 := mksV_ok (id := 4) (e := 1) (bytes := 8) (z := [litI .i64 0]) (t := 3) (n := ord.length) (by omega) (by omega)
  have hm2 := mksV_ok (id := 7) (e := 1) (bytes := 8) (z := [litI .i64 0]) (t := 3) (n := ord.length) (by omega) (by omega)
  rw [reps_one] at hm1 hm2
  have hz : cellsI (List.replicate ord.length 0) = List.replicate ord.length (litI .i64 0) := by simp [cellsI]
  have O : Own ([.row f.cs 29, .row [.sl 0 [] (some 0), .sl 0 [] (some 0)] 76, .dead, .dead, .row (List.replicate ord.length (litI .i64 0)) 3, .dead, .dead, .row (List.replicate ord.length (litI .i64 0)) 3, .dead, .row [.own 4 0 ord.length 1 (some ord.length), .own 7 0 ord.length 1 (some ord.length)] 76] : List AO) (lv 9 4 7 ord.length (List.replicate ord.length 0) (List.replicate ord.length 0) ++ [(0, f.cs, 29), (1, [.sl 0 [] (some 0), .sl 0 [] (some 0)], 76)]) := by
    unfold lv
    rw [hz]
    refine ⟨by simp, fun x hx => ?_⟩
    simp only [List.cons_append, List.nil_append, List.mem_cons, List.not_mem_nil, or_false] at hx
    rcases hx with rfl | rfl | rfl | rfl | rfl <;> rfl
  have hbl : (behF f).length ≤ 1000000 := by
    obtain ⟨B, _, h⟩ := behind_call f F hG
    have : (endL f).length ≤ 1000000 := endL_len f F
    exact Nat.le_trans (List.length_filter_le _ _) this
  obtain ⟨H1, L0, O1⟩ := of_loop0 (.ptr 0 0) (.ptr 1 0) B ord hB 9 4 7 ord.length _ (by omega) (fun x hx => by have := hr x hx; omega) ord.length 0 _ _ _ (by omega) (by simp) (by simp) O
  rw [show ((0 : Nat) : Int) = 0 from rfl] at L0
  rw [List.drop_zero] at O1
  change Own H1 (lv 9 4 7 ord.length (firstF ord) (firstF ord) ++ _) at O1
  obtain ⟨H2, L2, O2⟩ := of_loop2 B (.ptr 0 0) (.ptr 1 0) (NC f) (fun _ => none) (some f.names.length) (fun _ => rfl) 9 4 7 ord.length _ (firstF ord) (firstF_len ord) (by rw [NC_len, hl]) (by omega) (fun r hr => by have := NC_60 f F G r hr; omega) (fun r hr x hx => by have := NC_rng f F G r hr x hx; rw [hl]; exact this) (NC f).length 0 _ H1 (by omega) (firstF_len ord) O1
  rw [show ((0 : Nat) : Int) = 0 from rfl] at L2
  rw [List.drop_zero] at O2
  obtain ⟨H3, L3, O3⟩ := of_loop3 B B2 (.ptr 1 0) ord (behF f) hB hB2 9 4 7 ord.length _ (firstF ord) hbl (fun x hx => by have := behF_rng f G x hx; rw [hl]; exact this) (behF f).length 0 _ H2 (by omega) (by rw [maxV_len, firstF_len]) O2
  rw [show ((0 : Nat) : Int) = 0 from rfl] at L3
  rw [List.drop_zero] at O3
  change Own H3 (lv 9 4 7 ord.length (firstF ord) (lastF f ord) ++ _) at O3
  have hb8 : buildV [.sl 0 [] (some 0), .sl 0 [] (some 0)] [(0, 1, .own 4 0 ord.length 1 (some ord.length)), (1, 1, .own 7 0 ord.length 1 (some ord.length))] = some (.val (.agg [.own 4 0 ord.length 1 (some ord.length), .own 7 0 ord.length 1 (some ord.length)]) none) := rfl
  have st9 : storeAt [.row f.cs 29, .row [.sl 0 [] (some 0), .sl 0 [] (some 0)] 76, .dead, .dead, .row (List.replicate ord.length (litI .i64 0)) 3, .dead, .dead, .row (List.replicate ord.length (litI .i64 0)) 3, .dead, .row [.sl 0 [] (some 0), .sl 0 [] (some 0)] 76] 2 (.ptr 9 0) (.agg [.own 4 0 ord.length 1 (some ord.length), .own 7 0 ord.length 1 (some ord.length)]) = some [.row f.cs 29, .row [.sl 0 [] (some 0), .sl 0 [] (some 0)] 76, .dead, .dead, .row (List.replicate ord.length (litI .i64 0)) 3, .dead, .dead, .row (List.replicate ord.length (litI .i64 0)) 3, .dead, .row [.own 4 0 ord.length 1 (some ord.length), .own 7 0 ord.length 1 (some ord.length)] 76] := rfl
  have lA : Ai.load H1 (some 8) (.ptr 0 0) = some (.agg f.cs) := own_agg O1 (cs := f.cs) (t := 29) (by simp) rfl
  have lA2 : Ai.load H2 (some 8) (.ptr 0 0) = some (.agg f.cs) := own_agg O2 (cs := f.cs) (t := 29) (by simp) rfl
  have l5 : Ai.load H3 (some 2) (.ptr 9 0) = some (.agg [.own 4 0 ord.length 1 (some ord.length), .own 7 0 ord.length 1 (some ord.length)]) := own_agg O3 (cs := [.own 4 0 ord.length 1 (some ord.length), .own 7 0 ord.length 1 (some ord.length)]) (t := 76) (by simp) rfl
  have O4 : Own H3 ((1, [.sl 0 [] (some 0), .sl 0 [] (some 0)], 76) :: ([(0, f.cs, 29)] ++ lv 9 4 7 ord.length (firstF ord) (lastF f ord))) := by
    refine O3.perm (List.perm_append_comm.trans ?_)
    exact List.Perm.swap ..
  have O5 := O4.set [.own 4 0 ord.length 1 (some ord.length), .own 7 0 ord.length 1 (some ord.length)] 76
  have st1 : storeAt H3 2 (.ptr 1 0) (.agg [.own 4 0 ord.length 1 (some ord.length), .own 7 0 ord.length 1 (some ord.length)]) = some (setL H3 1 (.row [.own 4 0 ord.length 1 (some ord.length), .own 7 0 ord.length 1 (some ord.length)] 76)) := storeAt_agg O4.head rfl rfl rfl
  generalize setL H3 1 (.row [.own 4 0 ord.length 1 (some ord.length), .own 7 0 ord.length 1 (some ord.length)] 76) = H4 at O5 st1
  have lR : Ai.load H4 (some 2) (.ptr 1 0) = some (.agg [.own 4 0 ord.length 1 (some ord.length), .own 7 0 ord.length 1 (some ord.length)]) := own_agg O5 (cs := [.own 4 0 ord.length 1 (some ord.length), .own 7 0 ord.length 1 (some ord.length)]) (t := 76) (by simp) rfl
  have fa := Ord.frz_ints (H := H4) (p := 4) (k := 13) (c := some ord.length) (l := firstF ord) (z := []) (t := 3) (n := ord.length) (by rw [List.append_nil]; exact O5.get (4, cellsI (firstF ord), 3) (by simp)) rfl (firstF_len ord).symm
  have fb := Ord.frz_ints (H := H4) (p := 7) (k := 13) (c := some ord.length) (l := lastF f ord) (z := []) (t := 3) (n := ord.length) (by rw [List.append_nil]; exact O5.get (7, cellsI (lastF f ord), 3) (by simp)) rfl (lastF_len f ord).symm
  refine callV_frz (a := .agg [.own 4 0 ord.length 1 (some ord.length), .own 7 0 ord.length 1 (some ord.length)]) (H' := H4) (ids := [4] ++ ([7] ++ [])) rfl (by obtain ⟨e, xs, c, rfl⟩ := hB.cases; rfl) ?_ ?_
  · refine cw_of fn33 (c := c33) rfl rfl rfl rfl ?_
    simp -implicitDefEqProofs only [c33, aW, ↓aP, makes, reduceLT, reduceEqDiff, reduceAdd, core_box, flat_f, List.length_nil, List.length_cons, hB.lenV, hm1, hm2, core_build, hb8, st9, L0, lA, hN, Ord.lenV_gX, L2, lA2, hbc, hB2.lenV, L3, l5, st1]
    simp only [Option.bind_some, fin, fn33, res, resL, resV, get_cons, get_nil, if_true, lR]
  · rw [show frzF = 13 + 2 + 1 from rfl, frz]
    simp only [mapL, fa, fb, Option.bind_some]
end
section
variable {call : CallF} {mt : MtF} {md : FuncId → Md}
theorem reads_slx {A : AV} {l : List Int} {o d : List Obj1} {H : List AO} (S : SlX A l o) (O : Own H (o ++ d)) : Reads H A l := by
  rcases S with ⟨e, rfl, rfl, rfl⟩ | ⟨p, z, hz, rfl, rfl⟩
  · exact ⟨rfl, fun j x h => by cases h⟩
  · exact reads_own O.head
theorem index34r_loop (A : AV) (l : List Int) (p : Int → Bool) (fv : AV) (H : List AO) (R : Reads H A l) (hp : ∀ x ∈ l, ∀ id, fnV cw mds fv [litI .i64 x] H id = some (.wr (litB (p x)) H)) (hl : l.length ≤ 1000000) : ∀ (m n : Nat), m + n = l.length →
    loopW (codeW cw (lookM mtl) mds c34l0) [0, 1, 7, 8] [(0, A), (1, fv), (7, litI .i64 l.length), (8, litI .i64 n)] H =
      some (if findF p n (l.drop n) = -1 then (EX.exit 0, [(0, A), (1, fv), (7, litI .i64 l.length), (8, litI .i64 l.length), (9, litB false)], H) else (.ret, [(4, litI .i64 (findF p n (l.drop n)))], H))
  | 0, n, h => by
    have hn : n = l.length := by omega
    subst hn
    rw [if_pos (by simp [findF])]
    refine loopW_out ?_ (by simp)
    simp -implicitDefEqProofs only [c34l0, aW, ↓aP, makes, reduceLT, reduceEqDiff, reduceAdd, Int.lt_irrefl]
  | m + 1, n, h => by
    have hn : n < l.length := by omega
    have hg : l[n]? = some l[n] := List.getElem?_eq_getElem hn
    obtain ⟨c, hc1, hc2⟩ := R.el n _ hg
    have hlt : (n : Int) < l.length := by omega
    have hd : l.drop n = l[n] :: l.drop (n + 1) := List.drop_eq_getElem_cons hn
    have hx := fun id => hp l[n] (List.getElem_mem hn) id
    rw [hd, findF]
    cases hc : p l[n] with
    | true =>
      rw [hc] at hx
      rw [cond_true, if_neg (by omega)]
      refine loopW_out ?_ (by simp)
      simp -implicitDefEqProofs only [c34l0, aW, ↓aP, makes, reduceLT, reduceEqDiff, reduceAdd, hc1, hc2, hlt, hx]
    | false =>
      rw [hc] at hx
      rw [cond_false]
      refine loopW_round ?_ (index34r_loop A l p fv H R hp hl m (n + 1) (by omega))
      simp -implicitDefEqProofs only [c34l0, aW, ↓aP, makes, reduceLT, reduceEqDiff, reduceAdd, hc1, hc2, hlt, hx, wrap1 (show n < 4611686018427387904 by omega)]
theorem index34r_call (A : AV) (l : List Int) (p : Int → Bool) (fv : AV) (H : List AO) (R : Reads H A l) (hp : ∀ x ∈ l, ∀ id, fnV cw mds fv [litI .i64 x] H id = some (.wr (litB (p x)) H)) (hl : l.length ≤ 1000000) (id : Nat) :
    callV cw mds 34 [A, fv] H id = some (.wr (litI .i64 (findF p 0 l)) H) := by
  refine callV_same rfl (cw_of fn34 (c := c34) rfl rfl rfl rfl ?_) rfl
  have L := index34r_loop A l p fv H R hp hl l.length 0 (by omega)
  rw [List.drop_zero, show ((0 : Nat) : Int) = 0 from rfl] at L
  by_cases ha : findF p 0 l = -1
  · rw [if_pos ha] at L
    rw [ha]
    simp -implicitDefEqProofs only [c34, aW, ↓aP, makes, reduceLT, reduceEqDiff, reduceAdd, R.len, L]
    rfl
  · rw [if_neg ha] at L
    simp -implicitDefEqProofs only [c34, aW, ↓aP, makes, reduceLT, reduceEqDiff, reduceAdd, R.len, L]
    rfl
theorem lt35_call {H : List AO} {r : Nat} {i : Int} (h : Ai.load H none (.ptr r 0) = some (litI .i64 i)) (x : Int) (id : Nat) : fnV cw mds (.fn (.func 35) [] [.ptr r 0]) [litI .i64 x] H id = some (.wr (litB (decide (x < i))) H) := by
  show callV cw mds 35 [litI .i64 x, .ptr r 0] H id = _
  refine callV_same rfl (cw_of fn35 (c := c35) rfl rfl rfl rfl ?_) rfl
  simp -implicitDefEqProofs only [c35, aW, ↓aP, makes, reduceLT, reduceEqDiff, reduceAdd, h]
  rfl
def slotOf (i : Nat) (u : List Int) : Nat := if findF (fun x => decide (x < (i : Int))) 0 u < 0 then u.length else (findF (fun x => decide (x < (i : Int))) 0 u).toNat
def stepU (last : List Int) (i v : Nat) (u : List Int) : List Int := (if findF (fun x => decide (x < (i : Int))) 0 u < 0 then u ++ [0] else u).set (slotOf i u) (last.getD v 0)
theorem findF_lt (p : Int → Bool) : ∀ (l : List Int) (n : Nat), findF p n l < 0 ∨ ∃ i : Nat, findF p n l = ((n + i : Nat) : Int) ∧ i < l.length
  | [], n => .inl (by simp [findF])
  | x :: r, n => by
    rw [findF]
    cases p x with
    | true => right; exact ⟨0, by simp, by simp⟩
    | false =>
      rw [cond_false]
      rcases findF_lt p r (n + 1) with h | ⟨i, h1, h2⟩
      · exact .inl h
      · right; exact ⟨i + 1, by rw [h1]; congr 1; omega, by simp; omega⟩
theorem slotOf_lt (i : Nat) (u : List Int) : slotOf i u ≤ u.length ∧ (stepU [] i 0 u).length = max u.length (slotOf i u + 1) := by
  unfold stepU slotOf
  rcases findF_lt (fun x => decide (x < (i : Int))) u 0 with h | ⟨j, h1, h2⟩
  · rw [if_pos h, if_pos h]; simp
  · rw [h1]
    have : ¬ (((0 + j : Nat) : Int) < 0) := by omega
    rw [if_neg this, if_neg this]
    simp; omega
theorem pl_round (B : AV) (ord : List Int) (hB : RowA B ord) (first last : List Int) (c1 c2 : Option Nat) (n Lp Q Sp : Nat) (v2 : AV) (d : List Obj1) (hL : (Lp, [rowC first c1, rowC last c2], 76) ∈ d) (hQ : (Q, [B, .own Sp 0 n 1 (some n), litI .i64 0], 32) ∈ d) (i v : Nat) (hv : ord[i]? = some (v : Int)) (hvn : v < n) (hi : i < 4611686018427387904) (hll : last.length = n) (slots : List Int) (hsl : slots.length = n) (A : AV) (u : List Int) (o : List Obj1) (H : List AO) (hu : u.length ≤ 100000) (S : SlX A u o) (O : Own H (o ++ ((Sp, cellsI slots, 3) :: d))) :
    ∃ A' o' H', codeW cw (lookM mtl) mds c16l0 [(2, v2), (6, .ptr Lp 0), (7, .ptr Q 0), (8, A), (29, B), (30, litI .i64 ord.length), (31, litI .i64 i)] H =
      some (.normal, [(2, v2), (6, .ptr Lp 0), (7, .ptr Q 0), (8, A'), (29, B), (30, litI .i64 ord.length), (31, litI .i64 (i + 1 : Nat))], H') ∧ SlX A' (stepU last i v u) o' ∧ Own H' (o' ++ ((Sp, cellsI (slots.set v (slotOf i u)), 3) :: d)) := by
  have hlt : (i : Int) < ord.length := by have := (List.getElem?_eq_some_iff.1 hv).1; omega
  have O1 := own_newM O [litI .i64 i] 3
  have stb : storeAt (H ++ [.row [litI .i64 0] 3]) 1 (.ptr H.length 0) (litI .i64 i) = some (H ++ [.row [litI .i64 i] 3]) := by
    rw [store_ptr (get_last H _) (by simp) rfl rfl, setL_last]; rfl
  have lb : Ai.load (H ++ [.row [litI .i64 i] 3]) none (.ptr H.length 0) = some (litI .i64 i) := own_load O1 (cs := [litI .i64 i]) (t := 3) (by simp) rfl
  have hix := fun id => index34r_call A u (fun x => decide (x < (i : Int))) (.fn (.func 35) [] [.ptr H.length 0]) _ (reads_slx S O1) (fun x _ id => lt35_call lb x id) (by omega) id
  have hlast : Ai.iadr 1 (rowC last c2) (litI .i64 v) = some (.ip [litI .i64 (last.getD v 0)]) := by
    rw [iadr_row, Ord.getI (by omega)]; rfl
  have hw := wrap1 hi
  have hvi := iadr_ownI (r := Sp) (n := n) (c := some n) (x := (v : Int)) (by omega) (by omega)
  rw [Int.toNat_natCast] at hvi
  rcases findF_lt (fun x => decide (x < (i : Int))) u 0 with h | ⟨j, h1, h2⟩
  · -- a new slot
    have hs : slotOf i u = u.length := by unfold slotOf; rw [if_pos h]
    have hU : stepU last i v u = (u ++ [0]).set u.length (last.getD v 0) := by unfold stepU; rw [if_pos h, hs]
    obtain ⟨A2, o2, H2, ap, S2, O2⟩ := S.append O1 (RowA.of [0] (some 1)) (by simp; omega)
    rcases S2 with ⟨e, _, h0, _⟩ | ⟨p, z, hz, rfl, rfl⟩
    · simp at h0
    have hcut : ∃ A1, slice 1 A none (some (litI .i64 u.length)) (some (litI .i64 u.length)) = some A1 ∧ append (H ++ [AO.row [litI .i64 i] 3]) (H ++ [AO.row [litI .i64 i] 3]).length 1 8 3 A1 (rowC [0] (some 1)) = append (H ++ [AO.row [litI .i64 i] 3]) (H ++ [AO.row [litI .i64 i] 3]).length 1 8 3 A (rowC [0] (some 1)) := by
      rcases S with ⟨e, rfl, rfl, _⟩ | ⟨p', z', _, rfl, _⟩
      · refine ⟨.sl 1 [] (some 0), ?_, ?_⟩
        · simp only [slice, List.isEmpty_nil, Bool.or_true, cond_true]; rfl
        · simp only [append, rowC, List.map_cons, List.map_nil, elems, BEq.rfl, Bool.true_or, cond_true, Option.bind_some, List.isEmpty_nil, Bool.or_true, List.length_cons, List.length_nil, Nat.zero_add, Nat.reduceBEq, cond_false]
      · refine ⟨.own p' 0 u.length 1 (some u.length), ?_, rfl⟩
        have hb : ((u.length : Int) ≤ u.length) := Int.le_refl _
        simp only [slice, BEq.rfl, cond_true, cuts, bound, litI, Int.natCast_nonneg, hb, decide_true, Bool.and_self, Option.bind_some, Int.toNat_natCast, Nat.zero_mul, Nat.zero_add, Nat.sub_zero]
    obtain ⟨A1, sl1, apc⟩ := hcut
    rw [← apc] at ap
    have hlen : (u ++ [0]).length = u.length + 1 := by simp
    have hui := iadr_ownI (r := p) (n := (u ++ [0]).length) (c := none) (x := (u.length : Int)) (by omega) (by omega)
    rw [Int.toNat_natCast] at hui
    rw [List.singleton_append] at O2
    have st2 : storeAt H2 1 (.ptr p u.length) (litI .i64 (last.getD v 0)) = some (setL H2 p (.row (cellsI ((u ++ [0]).set u.length (last.getD v 0)) ++ z) 3)) := by
      rw [store_ptr O2.head (by simp [cellsI]) rfl rfl, List.set_append_left _ _ (by simp [cellsI])]
      simp [cellsI]
    have O3 := O2.set (cellsI ((u ++ [0]).set u.length (last.getD v 0)) ++ z) 3
    generalize setL H2 p (.row (cellsI ((u ++ [0]).set u.length (last.getD v 0)) ++ z) 3) = H3 at st2 O3
    have lL2 : Ai.load H2 none (.ptr Lp 1) = some (rowC last c2) := own_load O2 (cs := [rowC first c1, rowC last c2]) (t := 76) (by simp [hL]) rfl
    have lQ3 : Ai.load H3 none (.ptr Q 1) = some (.own Sp 0 n 1 (some n)) := own_load O3 (cs := [B, .own Sp 0 n 1 (some n), litI .i64 0]) (t := 32) (by simp [hQ]) rfl
    have O4 : Own H3 ((Sp, cellsI slots, 3) :: (p, cellsI ((u ++ [0]).set u.length (last.getD v 0)) ++ z, 3) :: (H.length, [litI .i64 i], 3) :: d) := O3.perm ((List.Perm.cons _ (List.Perm.swap ..)).trans (List.Perm.swap ..))
    have st3 : storeAt H3 1 (.ptr Sp v) (litI .i64 u.length) = some (setL H3 Sp (.row (cellsI (slots.set v u.length)) 3)) := by
      rw [store_ptr O4.head (by rw [cellsI_len]; omega) rfl rfl]
      simp [cellsI]
    have O5 := (O4.set (cellsI (slots.set v u.length)) 3).perm (List.Perm.swap ..)
    generalize setL H3 Sp (.row (cellsI (slots.set v u.length)) 3) = H4 at st3 O5
    refine ⟨.own p 0 (u ++ [0]).length 1 none, [(p, cellsI ((u ++ [0]).set u.length (last.getD v 0)) ++ z, 3)], H4, ?_, ?_, ?_⟩
    rotate_left
    · rw [hU]
      have := SlX.own p ((u ++ [0]).set u.length (last.getD v 0)) z hz
      rw [List.length_set] at this
      exact this
    · rw [hs]
      refine O5.sub ?_
      simp only [List.singleton_append]
      exact List.Sublist.cons_cons _ (List.Sublist.cons_cons _ (List.sublist_cons_self ..))
    · have hneg : decide (findF (fun x => decide (x < (i : Int))) 0 u < 0) = true := decide_eq_true h
      simp -implicitDefEqProofs only [c16l0, aW, ↓aP, makes, reduceLT, reduceEqDiff, reduceAdd, hlt, hB.iadr hv, stb, core_mkf, hix, h, S.lenV, sl1, core_bsl, bslV_1r, ap.opS, fadr_ptr, Nat.zero_add, lL2, hlast, hui, st2, lQ3, hvi, st3, hw]
  · -- a slot that is free
    rw [Nat.zero_add] at h1
    have hnn : ¬ findF (fun x => decide (x < (i : Int))) 0 u < 0 := by rw [h1]; omega
    have hs : slotOf i u = j := by unfold slotOf; rw [if_neg hnn, h1]; rfl
    have hU : stepU last i v u = u.set j (last.getD v 0) := by unfold stepU; rw [if_neg hnn, hs]
    rw [h1] at hix
    rcases S with ⟨e, _, h0, _⟩ | ⟨p, z, hz, rfl, rfl⟩
    · rw [h0] at h2; simp at h2
    have hui := iadr_ownI (r := p) (n := u.length) (c := none) (x := (j : Int)) (by omega) (by omega)
    rw [Int.toNat_natCast] at hui
    rw [List.singleton_append] at O1
    have st2 : storeAt (H ++ [.row [litI .i64 i] 3]) 1 (.ptr p j) (litI .i64 (last.getD v 0)) = some (setL (H ++ [.row [litI .i64 i] 3]) p (.row (cellsI (u.set j (last.getD v 0)) ++ z) 3)) := by
      rw [store_ptr O1.head (by simp [cellsI]; omega) rfl rfl, List.set_append_left _ _ (by simp [cellsI]; omega)]
      simp [cellsI]
    have O3 := O1.set (cellsI (u.set j (last.getD v 0)) ++ z) 3
    generalize setL (H ++ [.row [litI .i64 i] 3]) p (.row (cellsI (u.set j (last.getD v 0)) ++ z) 3) = H3 at st2 O3
    have lL2 : Ai.load (H ++ [.row [litI .i64 i] 3]) none (.ptr Lp 1) = some (rowC last c2) := own_load O1 (cs := [rowC first c1, rowC last c2]) (t := 76) (by simp [hL]) rfl
    have lQ3 : Ai.load H3 none (.ptr Q 1) = some (.own Sp 0 n 1 (some n)) := own_load O3 (cs := [B, .own Sp 0 n 1 (some n), litI .i64 0]) (t := 32) (by simp [hQ]) rfl
    have O4 : Own H3 ((Sp, cellsI slots, 3) :: (p, cellsI (u.set j (last.getD v 0)) ++ z, 3) :: (H.length, [litI .i64 i], 3) :: d) := O3.perm ((List.Perm.cons _ (List.Perm.swap ..)).trans (List.Perm.swap ..))
    have st3 : storeAt H3 1 (.ptr Sp v) (litI .i64 j) = some (setL H3 Sp (.row (cellsI (slots.set v j)) 3)) := by
      rw [store_ptr O4.head (by rw [cellsI_len]; omega) rfl rfl]
      simp [cellsI]
    have O5 := (O4.set (cellsI (slots.set v j)) 3).perm (List.Perm.swap ..)
    generalize setL H3 Sp (.row (cellsI (slots.set v j)) 3) = H4 at st3 O5
    refine ⟨.own p 0 u.length 1 none, [(p, cellsI (u.set j (last.getD v 0)) ++ z, 3)], H4, ?_, ?_, ?_⟩
    rotate_left
    · rw [hU]
      have := SlX.own p (u.set j (last.getD v 0)) z hz
      rw [List.length_set] at this
      exact this
    · rw [hs]
      refine O5.sub ?_
      simp only [List.singleton_append]
      exact List.Sublist.cons_cons _ (List.Sublist.cons_cons _ (List.sublist_cons_self ..))
    · have hj0 : ¬ ((j : Nat) : Int) < 0 := by omega
      simp -implicitDefEqProofs only [c16l0, aW, ↓aP, makes, reduceLT, reduceEqDiff, reduceAdd, hlt, hB.iadr hv, stb, core_mkf, hix, hj0, fadr_ptr, Nat.zero_add, lL2, hlast, hui, st2, lQ3, hvi, st3, hw]
end
section
variable {call : CallF} {mt : MtF} {md : FuncId → Md}
def plF (last : List Int) : Nat → List Int → List Int × List Int → List Int × List Int
  | _, [], s => s
  | i, v :: r, s => plF last (i + 1) r (stepU last i v.toNat s.1, s.2.set v.toNat (slotOf i s.1))
theorem stepU_len (last : List Int) (i v : Nat) (u : List Int) : (stepU last i v u).length ≤ u.length + 1 := by
  unfold stepU
  rw [List.length_set]
  split <;> simp
theorem plF_len (last : List Int) : ∀ (r : List Int) (i : Nat) (s : List Int × List Int), (plF last i r s).2.length = s.2.length
  | [], _, _ => rfl
  | v :: r, i, s => by rw [plF, plF_len last r]; simp
theorem pl_loop (B : AV) (ord : List Int) (hB : RowA B ord) (first last : List Int) (c1 c2 : Option Nat) (n Lp Q Sp : Nat) (v2 : AV) (d : List Obj1) (hL : (Lp, [rowC first c1, rowC last c2], 76) ∈ d) (hQ : (Q, [B, .own Sp 0 n 1 (some n), litI .i64 0], 32) ∈ d) (hr : ∀ x ∈ ord, 0 ≤ x ∧ x < (n : Int)) (hn : ord.length ≤ 10000) (hll : last.length = n) : ∀ (m i : Nat) (slots : List Int) (A : AV) (u : List Int) (o : List Obj1) (H : List AO), m + i = ord.length → slots.length = n → u.length ≤ i → SlX A u o → Own H (o ++ ((Sp, cellsI slots, 3) :: d)) →
    ∃ A' o' H', loopW (codeW cw (lookM mtl) mds c16l0) [2, 6, 7, 8, 29, 30, 31] [(2, v2), (6, .ptr Lp 0), (7, .ptr Q 0), (8, A), (29, B), (30, litI .i64 ord.length), (31, litI .i64 i)] H =
      some (.exit 0, [(2, v2), (6, .ptr Lp 0), (7, .ptr Q 0), (8, A'), (29, B), (30, litI .i64 ord.length), (31, litI .i64 ord.length), (32, litB false)], H') ∧ SlX A' (plF last i (ord.drop i) (u, slots)).1 o' ∧ Own H' (o' ++ ((Sp, cellsI (plF last i (ord.drop i) (u, slots)).2, 3) :: d))
  | 0, i, slots, A, u, o, H, h, hs, hu, S, O => by
    have hi : i = ord.length := by omega
    subst hi
    refine ⟨A, o, H, loopW_out ?_ (by simp), ?_, ?_⟩
    · simp -implicitDefEqProofs only [c16l0, aW, ↓aP, makes, reduceLT, reduceEqDiff, reduceAdd, Int.lt_irrefl]
    · rw [List.drop_length]; exact S
    · rw [List.drop_length]; exact O
  | m + 1, i, slots, A, u, o, H, h, hs, hu, S, O => by
    have hi : i < ord.length := by omega
    have hg : ord[i]? = some ord[i] := List.getElem?_eq_getElem hi
    have hx := hr _ (List.getElem_mem hi)
    rw [List.drop_eq_getElem_cons hi]
    generalize ord[i] = v at hg hx
    rw [plF]
    have hv : ((v.toNat : Nat) : Int) = v := by omega
    obtain ⟨A1, o1, H1, R, S1, O1⟩ := pl_round B ord hB first last c1 c2 n Lp Q Sp v2 d hL hQ i v.toNat (by rw [hv]; exact hg) (by omega) (by omega) hll slots hs A u o H (by omega) S O
    have := stepU_len last i v.toNat u
    obtain ⟨A', o', H', L, S', O'⟩ := pl_loop B ord hB first last c1 c2 n Lp Q Sp v2 d hL hQ hr hn hll m (i + 1) _ A1 _ o1 H1 (by omega) (by simpa using hs) (by omega) S1 O1
    exact ⟨A', o', H', loopW_round R L, S', O'⟩
def planOk (f : FlatV) : Bool := goodOk f && Ord.okL (NC f)
def slotsF (f : FlatV) (ord : List Int) : List Int × List Int := plF (lastF f ord) 0 ord ([], List.replicate ord.length 0)
theorem ord_facts (g : List (List Int)) (h : Ord.okL g = true) : (Ord.outL g).length = g.length ∧ (∀ x ∈ Ord.outL g, 0 ≤ x ∧ x < (g.length : Int)) ∧ (Ord.outL g).Nodup := by
  obtain ⟨ws, K⟩ := Ord.outL_ok g
  have hr := K.rng
  have hn := K.nd
  rw [List.nil_append] at hr hn
  refine ⟨?_, hr, hn⟩
  simp only [Ord.okL, decide_eq_true_eq] at h
  have hm : ((Ord.outL g).map Int.toNat).Nodup := by
    generalize Ord.outL g = l at hr hn
    induction l with
    | nil => simp
    | cons x l ih =>
      rw [List.nodup_cons] at hn
      rw [List.map_cons, List.nodup_cons]
      refine ⟨fun hm => hn.1 ?_, ih (fun y hy => hr y (List.mem_cons_of_mem _ hy)) hn.2⟩
      obtain ⟨y, hy, e⟩ := List.mem_map.1 hm
      have h1 := hr x (List.mem_cons_self ..)
      have h2 := hr y (List.mem_cons_of_mem _ hy)
      rw [show x = y by omega]; exact hy
  have := nodup_le (m := List.range g.length) hm (fun x hx => by
    obtain ⟨y, hy, rfl⟩ := List.mem_map.1 hx
    have := hr y hy
    rw [List.mem_range]; omega)
  simp at this; omega
theorem planOf_bad (f : FlatV) (F : FitsS f) (hp : planOk f = false) (H : List AO) (id : Nat) : callV cw mds 16 [flatA f] H id = some (.val (.tup [planA (.sl 0 [] (some 0)) (.sl 0 [] (some 0)) 0, litI .i64 (errA (goodOk f) (Ord.okL (NC f)))]) none) := by
  obtain ⟨B, hB, ho⟩ := corder_call f F
  have hoc : ∀ H id, callV cw mds 32 [.agg f.cs] H id = some (.val (.tup [B, litI .i64 (errA (goodOk f) (Ord.okL (NC f)))]) none) := ho
  have he : (errA (goodOk f) (Ord.okL (NC f)) != 0) = true := by
    unfold planOk at hp
    cases h1 : goodOk f with
    | false => rfl
    | true => rw [h1, Bool.true_and] at hp; rw [hp]; rfl
  have lA : Ai.load [.row f.cs 29, .row [.sl 0 [] (some 0), .sl 0 [] (some 0), litI .i64 0] 32] (some 8) (.ptr 0 0) = some (.agg f.cs) := load_agg rfl rfl
  have hb0 : buildV [.sl 0 [] (some 0), .sl 0 [] (some 0), litI .i64 0] [] = some (.val (.agg [.sl 0 [] (some 0), .sl 0 [] (some 0), litI .i64 0]) none) := rfl
  have st : storeAt [.row f.cs 29, .row [.sl 0 [] (some 0), .sl 0 [] (some 0), litI .i64 0] 32] 3 (.ptr 1 0) (.agg [.sl 0 [] (some 0), .sl 0 [] (some 0), litI .i64 0]) = some [.row f.cs 29, .row [.sl 0 [] (some 0), .sl 0 [] (some 0), litI .i64 0] 32] := rfl
  refine callV_frz (a := .tup [planA (.sl 0 [] (some 0)) (.sl 0 [] (some 0)) 0, litI .i64 (errA (goodOk f) (Ord.okL (NC f)))]) (H' := [.row f.cs 29, .row [.sl 0 [] (some 0), .sl 0 [] (some 0), litI .i64 0] 32]) (ids := []) rfl rfl ?_ rfl
  refine cw_of fn16 (c := c16) rfl rfl rfl rfl ?_
  simp -implicitDefEqProofs only [c16, aW, ↓aP, makes, reduceLT, reduceEqDiff, reduceAdd, core_box, flat_f, List.length_nil, List.length_cons, lA, hoc, he, core_build, hb0, st]
  rfl
theorem planOf_good (f : FlatV) (F : FitsS f) (hp : planOk f = true) : ∃ B, RowA B (ordL (NC f)) ∧ ∀ H id, callV cw mds 16 [flatA f] H id = some (.val (.tup [planA B (rowC (slotsF f (ordL (NC f))).2 (some (ordL (NC f)).length)) (slotsF f (ordL (NC f))).1.length, litI .i64 0]) none) := by
  obtain ⟨B, hB, ho⟩ := corder_call f F
  unfold planOk at hp
  rw [Bool.and_eq_true] at hp
  obtain ⟨hG, hK⟩ := hp
  rw [if_pos hG] at hB
  refine ⟨B, hB, fun H id => ?_⟩
  have G := goodF_of hG
  have hoc : ∀ H id, callV cw mds 32 [.agg f.cs] H id = some (.val (.tup [B, litI .i64 0]) none) := by
    intro H id
    have := ho H id
    rw [hG, hK] at this
    exact this
  have e0 : ordL (NC f) = Ord.outL (NC f) := if_pos hK
  obtain ⟨k1, k2, _⟩ := ord_facts (NC f) hK
  rw [← e0, NC_len] at k1 k2
  have hnn := F.names
  have lA : Ai.load [.row f.cs 29, .row [.sl 0 [] (some 0), .sl 0 [] (some 0), litI .i64 0] 32] (some 8) (.ptr 0 0) = some (.agg f.cs) := load_agg rfl rfl
  have hof : ∀ H id, callV cw mds 33 [.agg f.cs, B] H id = some (.val (.agg [rowC (firstF (ordL (NC f))) (some (ordL (NC f)).length), rowC (lastF f (ordL (NC f))) (some (ordL (NC f)).length)]) none) := fun H id => of_call f F hG hB k1 k2 H id
  have hof' := of_call f F hG hB k1 k2
  have st2 : storeAt [.row f.cs 29, .row [.sl 0 [] (some 0), .sl 0 [] (some 0), litI .i64 0] 32, .row [.sl 0 [] (some 0), .sl 0 [] (some 0)] 76] 2 (.ptr 2 0) (.agg [rowC (firstF (ordL (NC f))) (some (ordL (NC f)).length), rowC (lastF f (ordL (NC f))) (some (ordL (NC f)).length)]) = some [.row f.cs 29, .row [.sl 0 [] (some 0), .sl 0 [] (some 0), litI .i64 0] 32, .row [rowC (firstF (ordL (NC f))) (some (ordL (NC f)).length), rowC (lastF f (ordL (NC f))) (some (ordL (NC f)).length)] 76] := by
    rw [storeAt_agg (r := 2) (n := 2) (cs := [.sl 0 [] (some 0), .sl 0 [] (some 0)]) (t := 76) rfl rfl rfl rfl]; rfl
  have hm1 := mksV_ok (id := 3) (e := 1) (bytes := 8) (z := [litI .i64 0]) (t := 3) (n := (ordL (NC f)).length) (by omega) (by omega)
  rw [reps_one] at hm1
  obtain ⟨eB, xB, cB, eqB⟩ := hB.cases
  have hb3 : buildV [.sl 0 [] (some 0), .sl 0 [] (some 0), litI .i64 0] [(0, 1, B), (1, 1, .own 3 0 (ordL (NC f)).length 1 (some (ordL (NC f)).length))] = some (.val (.agg [B, .own 3 0 (ordL (NC f)).length 1 (some (ordL (NC f)).length), litI .i64 0]) none) := by rw [eqB]; rfl
  have st4 : storeAt [.row f.cs 29, .row [.sl 0 [] (some 0), .sl 0 [] (some 0), litI .i64 0] 32, .row [rowC (firstF (ordL (NC f))) (some (ordL (NC f)).length), rowC (lastF f (ordL (NC f))) (some (ordL (NC f)).length)] 76, .row (List.replicate (ordL (NC f)).length (litI .i64 0)) 3, .row [.sl 0 [] (some 0), .sl 0 [] (some 0), litI .i64 0] 32] 3 (.ptr 4 0) (.agg [B, .own 3 0 (ordL (NC f)).length 1 (some (ordL (NC f)).length), litI .i64 0]) = some [.row f.cs 29, .row [.sl 0 [] (some 0), .sl 0 [] (some 0), litI .i64 0] 32, .row [rowC (firstF (ordL (NC f))) (some (ordL (NC f)).length), rowC (lastF f (ordL (NC f))) (some (ordL (NC f)).length)] 76, .row (List.replicate (ordL (NC f)).length (litI .i64 0)) 3, .row [B, .own 3 0 (ordL (NC f)).length 1 (some (ordL (NC f)).length), litI .i64 0] 32] := by
    rw [storeAt_agg (r := 4) (n := 3) (cs := [.sl 0 [] (some 0), .sl 0 [] (some 0), litI .i64 0]) (t := 32) rfl rfl rfl (by rw [eqB]; rfl)]; rfl
  let d : List Obj1 := [(0, f.cs, 29), (1, [.sl 0 [] (some 0), .sl 0 [] (some 0), litI .i64 0], 32), (2, [rowC (firstF (ordL (NC f))) (some (ordL (NC f)).length), rowC (lastF f (ordL (NC f))) (some (ordL (NC f)).length)], 76), (4, [B, .own 3 0 (ordL (NC f)).length 1 (some (ordL (NC f)).length), litI .i64 0], 32)]
  have hz : cellsI (List.replicate (ordL (NC f)).length 0) = List.replicate (ordL (NC f)).length (litI .i64 0) := by simp [cellsI]
  have O : Own ([.row f.cs 29, .row [.sl 0 [] (some 0), .sl 0 [] (some 0), litI .i64 0] 32, .row [rowC (firstF (ordL (NC f))) (some (ordL (NC f)).length), rowC (lastF f (ordL (NC f))) (some (ordL (NC f)).length)] 76, .row (List.replicate (ordL (NC f)).length (litI .i64 0)) 3, .row [B, .own 3 0 (ordL (NC f)).length 1 (some (ordL (NC f)).length), litI .i64 0] 32] : List AO) ([] ++ ((3, cellsI (List.replicate (ordL (NC f)).length 0), 3) :: d)) := by
    rw [hz, List.nil_append]
    refine ⟨by simp [d], fun x hx => ?_⟩
    simp only [d, List.mem_cons, List.not_mem_nil, or_false] at hx
    rcases hx with rfl | rfl | rfl | rfl | rfl <;> rfl
  obtain ⟨A', o', H5, L, S', O'⟩ := pl_loop B (ordL (NC f)) hB (firstF (ordL (NC f))) (lastF f (ordL (NC f))) (some (ordL (NC f)).length) (some (ordL (NC f)).length) (ordL (NC f)).length 2 4 3 (.ptr 1 0) d (by simp [d]) (by simp [d]) (fun x hx => by rw [k1]; exact k2 x hx) (by omega) (lastF_len f _) (ordL (NC f)).length 0 (List.replicate (ordL (NC f)).length 0) (.sl 0 [] (some 0)) [] [] _ (by omega) (by simp) (Nat.le_refl _) (SlX.nil 0) O
  rw [show ((0 : Nat) : Int) = 0 from rfl] at L
  rw [List.drop_zero] at S' O'
  change SlX A' (slotsF f (ordL (NC f))).1 o' at S'
  change Own H5 (o' ++ ((3, cellsI (slotsF f (ordL (NC f))).2, 3) :: d)) at O'
  have hsl : (slotsF f (ordL (NC f))).2.length = (ordL (NC f)).length := by unfold slotsF; rw [plF_len]; simp
  have O5 : Own H5 ((4, [B, .own 3 0 (ordL (NC f)).length 1 (some (ordL (NC f)).length), litI .i64 0], 32) :: (o' ++ [(3, cellsI (slotsF f (ordL (NC f))).2, 3), (0, f.cs, 29), (1, [.sl 0 [] (some 0), .sl 0 [] (some 0), litI .i64 0], 32), (2, [rowC (firstF (ordL (NC f))) (some (ordL (NC f)).length), rowC (lastF f (ordL (NC f))) (some (ordL (NC f)).length)], 76)])) := by
    refine O'.perm ?_
    have : o' ++ ((3, cellsI (slotsF f (ordL (NC f))).2, 3) :: d) = (o' ++ [(3, cellsI (slotsF f (ordL (NC f))).2, 3), (0, f.cs, 29), (1, [.sl 0 [] (some 0), .sl 0 [] (some 0), litI .i64 0], 32), (2, [rowC (firstF (ordL (NC f))) (some (ordL (NC f)).length), rowC (lastF f (ordL (NC f))) (some (ordL (NC f)).length)], 76)]) ++ [(4, [B, .own 3 0 (ordL (NC f)).length 1 (some (ordL (NC f)).length), litI .i64 0], 32)] := by simp [d]
    rw [this]; exact List.perm_append_comm
  have st6 : storeAt H5 1 (.ptr 4 2) (litI .i64 (slotsF f (ordL (NC f))).1.length) = some (setL H5 4 (.row [B, .own 3 0 (ordL (NC f)).length 1 (some (ordL (NC f)).length), litI .i64 (slotsF f (ordL (NC f))).1.length] 32)) := by
    rw [store_ptr O5.head (by simp) rfl rfl]; rfl
  have O6 := O5.set [B, .own 3 0 (ordL (NC f)).length 1 (some (ordL (NC f)).length), litI .i64 (slotsF f (ordL (NC f))).1.length] 32
  generalize setL H5 4 (.row [B, .own 3 0 (ordL (NC f)).length 1 (some (ordL (NC f)).length), litI .i64 (slotsF f (ordL (NC f))).1.length] 32) = H6 at st6 O6
  have l6 : Ai.load H6 (some 3) (.ptr 4 0) = some (.agg [B, .own 3 0 (ordL (NC f)).length 1 (some (ordL (NC f)).length), litI .i64 (slotsF f (ordL (NC f))).1.length]) := own_agg O6 (cs := [B, .own 3 0 (ordL (NC f)).length 1 (some (ordL (NC f)).length), litI .i64 (slotsF f (ordL (NC f))).1.length]) (t := 32) (by simp) rfl
  have g1 : H6[1]? = some (.row [.sl 0 [] (some 0), .sl 0 [] (some 0), litI .i64 0] 32) := O6.get (1, [.sl 0 [] (some 0), .sl 0 [] (some 0), litI .i64 0], 32) (by simp)
  have st7 : storeAt H6 3 (.ptr 1 0) (.agg [B, .own 3 0 (ordL (NC f)).length 1 (some (ordL (NC f)).length), litI .i64 (slotsF f (ordL (NC f))).1.length]) = some (setL H6 1 (.row [B, .own 3 0 (ordL (NC f)).length 1 (some (ordL (NC f)).length), litI .i64 (slotsF f (ordL (NC f))).1.length] 32)) := storeAt_agg g1 rfl rfl (by rw [eqB]; rfl)
  have g3 : (setL H6 1 (.row [B, .own 3 0 (ordL (NC f)).length 1 (some (ordL (NC f)).length), litI .i64 (slotsF f (ordL (NC f))).1.length] 32))[3]? = some (.row (cellsI (slotsF f (ordL (NC f))).2) 3) := by
    rw [getH_set_ne (by omega)]; exact O6.get (3, cellsI (slotsF f (ordL (NC f))).2, 3) (by simp)
  have g7 : (setL H6 1 (.row [B, .own 3 0 (ordL (NC f)).length 1 (some (ordL (NC f)).length), litI .i64 (slotsF f (ordL (NC f))).1.length] 32))[1]? = some (.row [B, .own 3 0 (ordL (NC f)).length 1 (some (ordL (NC f)).length), litI .i64 (slotsF f (ordL (NC f))).1.length] 32) := getH_set_eq g1
  generalize setL H6 1 (.row [B, .own 3 0 (ordL (NC f)).length 1 (some (ordL (NC f)).length), litI .i64 (slotsF f (ordL (NC f))).1.length] 32) = H7 at st7 g3 g7
  have lR : Ai.load H7 (some 3) (.ptr 1 0) = some (.agg [B, .own 3 0 (ordL (NC f)).length 1 (some (ordL (NC f)).length), litI .i64 (slotsF f (ordL (NC f))).1.length]) := load_agg g7 rfl
  have fz := Ord.frz_ints (H := H7) (p := 3) (k := 12) (c := some (ordL (NC f)).length) (l := (slotsF f (ordL (NC f))).2) (z := []) (t := 3) (n := (ordL (NC f)).length) (by rw [List.append_nil]; exact g3) rfl hsl.symm
  refine callV_frz (a := .tup [.agg [B, .own 3 0 (ordL (NC f)).length 1 (some (ordL (NC f)).length), litI .i64 (slotsF f (ordL (NC f))).1.length], litI .i64 0]) (H' := H7) (ids := ([] ++ ([3] ++ ([] ++ []))) ++ ([] ++ [])) rfl rfl ?_ ?_
  · refine cw_of fn16 (c := c16) rfl rfl rfl rfl ?_
    simp -implicitDefEqProofs only [c16, aW, ↓aP, makes, reduceLT, reduceEqDiff, reduceAdd, core_box, flat_f, List.length_nil, List.length_cons, lA, hoc, bne_self_eq_false, hof, st2, hB.lenV, hm1, core_build, hb3, st4, L, S'.lenV, fadr_ptr, Nat.zero_add, st6, l6, st7]
    simp only [Option.bind_some, fin, fn16, res, resL, resV, get_cons, get_nil, if_true, lR]
    rfl
  · rw [show frzF = 12 + 2 + 1 + 1 from rfl, frz]
    simp only [mapL]
    rw [frz]
    simp only [mapL, fz, Option.bind_some]
    rw [eqB]
    rfl
end
section
variable {call : CallF} {mt : MtF} {md : FuncId → Md}
def atF (n : Nat) : List Int → Nat → List Int → Option (List Int)
  | at_, _, [] => some at_
  | at_, i, v :: r => if v < 0 ∨ (n : Int) ≤ v ∨ 0 ≤ at_.getD v.toNat 0 then none else atF n (at_.set v.toNat i) (i + 1) r
def behindA (at_ : List Int) (v : Nat) (row : List Int) : Bool := !(decide (at_.getD v 0 < 0)) && !(row.any fun k => decide (at_.getD k.toNat 0 ≥ at_.getD v 0))
def needsAt (at_ : List Int) : Nat → List (List Int) → Bool
  | _, [] => true
  | v, row :: g => behindA at_ v row && needsAt at_ (v + 1) g
def orderedF (f : FlatV) (ord : List Int) : Bool := match atF f.names.length (List.replicate f.names.length (-1)) 0 ord with
  | none => false
  | some at_ => needsAt at_ 0 (NC f)
abbrev ro (n : Nat) (at_ : List Int) : List Obj1 := [(1, cellsI at_, 3), (2, [.own 1 0 n 1 (some n)], 23)]
section
variable {H : List AO} {n : Nat} {at_ : List Int} {d : List Obj1}
end
end
section
variable {call : CallF} {mt : MtF} {md : FuncId → Md}
def findL (k : Int) : List (Int × Int) → Nat → Option (Nat × Int)
  | [], _ => none
  | p :: r, i => if p.1 = k then some (i, p.2) else findL k r (i + 1)
def lookL (L : List (Int × Int)) (k : Int) : Option Int := (findL k L 0).map (·.2)
end
section
variable {call : CallF} {mt : MtF} {md : FuncId → Md}
def liesOk (last slots : List Int) : Nat → List Int → (Int → Option Int) → Bool
  | _, [], _ => true
  | i, v :: r, m => (match m (slots.getD v.toNat 0) with | some old => decide (last.getD old.toNat 0 < (i : Int)) | none => true) &&
    liesOk last slots (i + 1) r fun j => if j = slots.getD v.toNat 0 then some v else m j
def rightF (f : FlatV) (ord slots : List Int) (m : Int) : Bool :=
  goodOk f && ((ord.length : Int) == (f.names.length : Int)) && ((slots.length : Int) == (f.names.length : Int)) && !(slots.any fun s => decide (s < 0) || decide (s ≥ m)) && orderedF f ord && liesOk (lastF f ord) slots 0 ord fun _ => none
end
section
variable {call : CallF} {mt : MtF} {md : FuncId → Md}
def needR (f : FlatV) (q : Eqn) : List Int := q.args ++ (if q.guard ≥ 0 then [q.guard] else []) ++ begF f q
theorem need22_call (f : FlatV) (F : FitsS f) (q : Eqn) (hq : q.args.length ≤ 30) (K : KOk f q) : ∃ B, RowA B (needR f q) ∧ ∀ H id, callV cw mds 22 [.agg f.cs, .agg q.cs] H id = some (.val B none) := by
  have hbl := begF_len f F q K
  have O0 : Own [AO.row f.cs 29, .row q.cs 60] ([] ++ [(0, f.cs, 29), (1, q.cs, 60)]) := by
    refine ⟨by simp, fun x hx => ?_⟩
    simp only [List.nil_append, List.mem_cons, List.not_mem_nil, or_false] at hx
    rcases hx with rfl | rfl <;> rfl
  have l2 : Ai.load [.row f.cs 29, .row q.cs 60] none (.ptr 1 2) = some (rowC q.args none) := rfl
  obtain ⟨A1, o1, H1, ap1, S1, O1⟩ := (SlX.nil 1).append O0 (RowA.of q.args none) (by simp; omega)
  simp only [List.length_cons, List.length_nil, Nat.zero_add, reduceAdd] at ap1
  rw [List.nil_append] at S1
  have l9 : Ai.load H1 none (.ptr 1 9) = some (litI .i64 q.guard) := own_load O1 (cs := q.cs) (t := 60) (by simp) rfl
  suffices hs : ∃ A o H', cw 22 [.agg f.cs, .agg q.cs] [] = some (.ret A, H') ∧ SlX A (needR f q) o ∧ Own H' o by
    obtain ⟨A, o, H', h, S, O⟩ := hs
    obtain ⟨B, h1, _, h2⟩ := callV_frz1 (H := []) (id := 0) rfl rfl h S O
    exact ⟨B, h1, h2⟩
  by_cases hg : q.guard ≥ 0
  · obtain ⟨A2, o2, H2, ap2, S2, O2⟩ := S1.append O1 (RowA.of [q.guard] (some 1)) (by simp; omega)
    have la : Ai.load H2 none (.ptr 1 1) = some (litS q.op) := own_load O2 (cs := q.cs) (t := 60) (by simp) rfl
    have lk : Ai.load H2 none (.ptr 1 3) = some (litI .i64 q.k) := own_load O2 (cs := q.cs) (t := 60) (by simp) rfl
    have l4 : Ai.load H2 none (.ptr 0 4) = some (memsA f.mems) := own_load O2 (cs := f.cs) (t := 29) (by simp) rfl
    have l5 : Ai.load H2 none (.ptr 0 5) = some (contsA f.conts) := own_load O2 (cs := f.cs) (t := 29) (by simp) rfl
    cases hm : isS q.op [109, 101, 109] with
    | true =>
      obtain ⟨m, h1, h2, h3⟩ := iadr_memsI (K.m hm)
      have hk : isS q.op [99, 111, 110, 116] = false := isS_ne hm rfl
      have hml := F.mres m (List.mem_of_getElem? h1)
      obtain ⟨A3, o3, H3, ap3, S3, O3⟩ := S2.append O2 (RowA.of m.resets none) (by simp; omega)
      have la3 : Ai.load H3 none (.ptr 1 1) = some (litS q.op) := own_load O3 (cs := q.cs) (t := 60) (by simp) rfl
      refine ⟨A3, o3, H3, ?_, ?_, O3.sub (List.sublist_append_left ..)⟩
      · refine cw_of fn22 (c := c22) rfl rfl rfl rfl ?_
        simp -implicitDefEqProofs only [c22, aW, ↓aP, makes, reduceLT, reduceEqDiff, reduceAdd, core_box, rt_b8 f, eq_b10 q, core_bsl, bslV_0, bslV_1r, List.length_nil, List.length_cons, List.singleton_append, fadr_ptr, fadr_ip, Nat.zero_add, Nat.add_zero, reduceAdd, l2, ap1.opS, l9, hg, ap2.opS, bin_isS, la, lk, hm, l4, h2, mem_h7, ap3.opS, la3, hk]
        rfl
      · unfold needR begF
        rw [hm, cond_true, h3]; rw [if_pos hg]; exact S3
    | false =>
      cases hk : isS q.op [99, 111, 110, 116] with
      | true =>
        obtain ⟨m, h1, h2, h3⟩ := iadr_contsI (K.k hk)
        have hml := F.cres m (List.mem_of_getElem? h1)
        obtain ⟨A3, o3, H3, ap3, S3, O3⟩ := S2.append O2 (RowA.of m.resets none) (by simp; omega)
        refine ⟨A3, o3, H3, ?_, ?_, O3.sub (List.sublist_append_left ..)⟩
        · refine cw_of fn22 (c := c22) rfl rfl rfl rfl ?_
          simp -implicitDefEqProofs only [c22, aW, ↓aP, makes, reduceLT, reduceEqDiff, reduceAdd, core_box, rt_b8 f, eq_b10 q, core_bsl, bslV_0, bslV_1r, List.length_nil, List.length_cons, List.singleton_append, fadr_ptr, fadr_ip, Nat.zero_add, Nat.add_zero, reduceAdd, l2, ap1.opS, l9, hg, ap2.opS, bin_isS, la, lk, hm, hk, l5, h2, cont_h7, ap3.opS]
          rfl
        · unfold needR begF
          rw [hm, hk, cond_false, cond_true, h3]; rw [if_pos hg]; exact S3
      | false =>
        refine ⟨A2, o2, H2, ?_, ?_, O2.sub (List.sublist_append_left ..)⟩
        · refine cw_of fn22 (c := c22) rfl rfl rfl rfl ?_
          simp -implicitDefEqProofs only [c22, aW, ↓aP, makes, reduceLT, reduceEqDiff, reduceAdd, core_box, rt_b8 f, eq_b10 q, core_bsl, bslV_0, bslV_1r, List.length_nil, List.length_cons, List.singleton_append, fadr_ptr, fadr_ip, Nat.zero_add, Nat.add_zero, reduceAdd, l2, ap1.opS, l9, hg, ap2.opS, bin_isS, la, lk, hm, hk]
          rfl
        · unfold needR begF
          rw [hm, hk, cond_false, cond_false]; rw [if_pos hg, List.append_nil]; exact S2
  · skip
    have la : Ai.load H1 none (.ptr 1 1) = some (litS q.op) := own_load O1 (cs := q.cs) (t := 60) (by simp) rfl
    have lk : Ai.load H1 none (.ptr 1 3) = some (litI .i64 q.k) := own_load O1 (cs := q.cs) (t := 60) (by simp) rfl
    have l4 : Ai.load H1 none (.ptr 0 4) = some (memsA f.mems) := own_load O1 (cs := f.cs) (t := 29) (by simp) rfl
    have l5 : Ai.load H1 none (.ptr 0 5) = some (contsA f.conts) := own_load O1 (cs := f.cs) (t := 29) (by simp) rfl
    cases hm : isS q.op [109, 101, 109] with
    | true =>
      obtain ⟨m, h1, h2, h3⟩ := iadr_memsI (K.m hm)
      have hk : isS q.op [99, 111, 110, 116] = false := isS_ne hm rfl
      have hml := F.mres m (List.mem_of_getElem? h1)
      obtain ⟨A3, o3, H3, ap3, S3, O3⟩ := S1.append O1 (RowA.of m.resets none) (by omega)
      have la3 : Ai.load H3 none (.ptr 1 1) = some (litS q.op) := own_load O3 (cs := q.cs) (t := 60) (by simp) rfl
      refine ⟨A3, o3, H3, ?_, ?_, O3.sub (List.sublist_append_left ..)⟩
      · refine cw_of fn22 (c := c22) rfl rfl rfl rfl ?_
        simp -implicitDefEqProofs only [c22, aW, ↓aP, makes, reduceLT, reduceEqDiff, reduceAdd, core_box, rt_b8 f, eq_b10 q, core_bsl, bslV_0, bslV_1r, List.length_nil, List.length_cons, List.singleton_append, fadr_ptr, fadr_ip, Nat.zero_add, Nat.add_zero, reduceAdd, l2, ap1.opS, l9, hg, bin_isS, la, lk, hm, l4, h2, mem_h7, ap3.opS, la3, hk]
        rfl
      · unfold needR begF
        rw [hm, cond_true, h3]; rw [if_neg hg, List.append_nil]; exact S3
    | false =>
      cases hk : isS q.op [99, 111, 110, 116] with
      | true =>
        obtain ⟨m, h1, h2, h3⟩ := iadr_contsI (K.k hk)
        have hml := F.cres m (List.mem_of_getElem? h1)
        obtain ⟨A3, o3, H3, ap3, S3, O3⟩ := S1.append O1 (RowA.of m.resets none) (by omega)
        refine ⟨A3, o3, H3, ?_, ?_, O3.sub (List.sublist_append_left ..)⟩
        · refine cw_of fn22 (c := c22) rfl rfl rfl rfl ?_
          simp -implicitDefEqProofs only [c22, aW, ↓aP, makes, reduceLT, reduceEqDiff, reduceAdd, core_box, rt_b8 f, eq_b10 q, core_bsl, bslV_0, bslV_1r, List.length_nil, List.length_cons, List.singleton_append, fadr_ptr, fadr_ip, Nat.zero_add, Nat.add_zero, reduceAdd, l2, ap1.opS, l9, hg, bin_isS, la, lk, hm, hk, l5, h2, cont_h7, ap3.opS]
          rfl
        · unfold needR begF
          rw [hm, hk, cond_false, cond_true, h3]; rw [if_neg hg, List.append_nil]; exact S3
      | false =>
        refine ⟨A1, o1, H1, ?_, ?_, O1.sub (List.sublist_append_left ..)⟩
        · refine cw_of fn22 (c := c22) rfl rfl rfl rfl ?_
          simp -implicitDefEqProofs only [c22, aW, ↓aP, makes, reduceLT, reduceEqDiff, reduceAdd, core_box, rt_b8 f, eq_b10 q, core_bsl, bslV_0, bslV_1r, List.length_nil, List.length_cons, List.singleton_append, fadr_ptr, fadr_ip, Nat.zero_add, Nat.add_zero, reduceAdd, l2, ap1.opS, l9, hg, bin_isS, la, lk, hm, hk]
          rfl
        · unfold needR begF
          rw [hm, hk, cond_false, cond_false]; rw [if_neg hg, List.append_nil, List.append_nil]; exact S1
end
section
variable {call : CallF} {mt : MtF} {md : FuncId → Md}
structure GraphA (A : AV) (g : List (List Int)) : Prop where
  len : Ai.lenV A = some (litI .i64 g.length)
  el : ∀ (n : Nat) (row : List Int), g[n]? = some row → ∃ B, iadr 1 A (litI .i64 n) = some (.ip [B]) ∧ RowA B row
  sl : ∃ e xs c, A = .sl e xs c
theorem graph_cat {L : Rows} (h : L.ok) (c : Option Nat) : GraphA (catA L c) (L.map (·.2)) := by
  refine ⟨by rw [lenV_cat]; simp, fun n row hn => ?_, ⟨_, _, _, rfl⟩⟩
  rw [List.getElem?_map] at hn
  cases hp : L[n]? with
  | none => rw [hp] at hn; cases hn
  | some p =>
    rw [hp] at hn
    simp only [Option.map_some, sI] at hn
    refine ⟨p.1, by rw [iadr_cat, hp]; rfl, ?_⟩
    rw [← hn]; exact h p (List.mem_of_getElem? hp)
def needsP (g : List (List Int)) (i k : Int) : Bool := decide (0 ≤ i) && decide (i < g.length) && decide (0 ≤ k) && decide (k < g.length) && (g.getD i.toNat []).contains k
theorem needs7g_loop (A B : AV) (g : List (List Int)) (i : Nat) (k : Int) (row : List Int) (hi : iadr 1 A (litI .i64 i) = some (.ip [B])) (hB : RowA B row) (H : List AO) (hl : row.length ≤ 1000000) : ∀ (m n : Nat), m + n = row.length →
    loopW (codeW call mt md c41l0) [0, 1, 2, 7] [(0, A), (1, litI .i64 i), (2, litI .i64 k), (7, litI .i64 n)] H =
      some (if (row.drop n).contains k = true then (.ret, [(6, litB true)], H) else (EX.exit 0, [(0, A), (1, litI .i64 i), (2, litI .i64 k), (7, litI .i64 row.length), (32, litB false)], H))
  | 0, n, h => by
    have hn : n = row.length := by omega
    subst hn
    rw [if_neg (by simp)]
    refine loopW_out ?_ (by simp)
    simp -implicitDefEqProofs only [c41l0, aW, ↓aP, makes, reduceLT, reduceEqDiff, reduceAdd, hi, load_ip1, hB.lenV, Int.lt_irrefl]
  | m + 1, n, h => by
    have hn : n < row.length := by omega
    have hg : row[n]? = some row[n] := List.getElem?_eq_getElem hn
    have hlt : (n : Int) < row.length := by omega
    have hd : row.drop n = row[n] :: row.drop (n + 1) := List.drop_eq_getElem_cons hn
    rw [hd, List.contains_cons]
    by_cases h0 : row[n] = k
    · rw [if_pos (by simp [h0])]
      refine loopW_out ?_ (by simp)
      simp -implicitDefEqProofs only [c41l0, aW, ↓aP, makes, reduceLT, reduceEqDiff, reduceAdd, hi, load_ip1, hB.lenV, hB.iadr hg, hlt, h0]
    · have e : (k == row[n]) = false := by simp; exact fun h => h0 h.symm
      rw [e, Bool.false_or]
      refine loopW_round ?_ (needs7g_loop A B g i k row hi hB H hl m (n + 1) (by omega))
      have h0' : (row[n] == k) = false := by simp [h0]
      simp -implicitDefEqProofs only [c41l0, aW, ↓aP, makes, reduceLT, reduceEqDiff, reduceAdd, hi, load_ip1, hB.lenV, hB.iadr hg, hlt, h0', wrap1 (show n < 4611686018427387904 by omega)]
theorem needs7g_tells {A : AV} {g : List (List Int)} (hA : GraphA A g) (i k : Int) (hl : ∀ r ∈ g, r.length ≤ 1000000) (H : List AO) : cw 41 [A, litI .i64 i, litI .i64 k] H = some (.ret (litB (needsP g i k)), H) := by
  refine cw_of fn41 (c := c41) rfl rfl rfl rfl ?_
  by_cases h0 : i < 0
  · rw [show needsP g i k = false by unfold needsP; rw [decide_eq_false (show ¬ 0 ≤ i by omega)]; rfl]
    simp -implicitDefEqProofs only [c41, aW, ↓aP, makes, reduceLT, reduceEqDiff, reduceAdd, h0]
    rfl
  by_cases h1 : i ≥ (g.length : Int)
  · rw [show needsP g i k = false by unfold needsP; rw [decide_eq_false (show ¬ i < (g.length : Int) by omega), Bool.and_false]; rfl]
    simp -implicitDefEqProofs only [c41, aW, ↓aP, makes, reduceLT, reduceEqDiff, reduceAdd, h0, hA.len, h1]
    rfl
  by_cases h2 : k < 0
  · rw [show needsP g i k = false by unfold needsP; rw [decide_eq_false (show ¬ 0 ≤ k by omega), Bool.and_false]; rfl]
    simp -implicitDefEqProofs only [c41, aW, ↓aP, makes, reduceLT, reduceEqDiff, reduceAdd, h0, hA.len, h1, Int.not_le.mp h1, h2]
    rfl
  by_cases h3 : k ≥ (g.length : Int)
  · rw [show needsP g i k = false by unfold needsP; rw [decide_eq_false (show ¬ k < (g.length : Int) by omega), Bool.and_false]; rfl]
    simp -implicitDefEqProofs only [c41, aW, ↓aP, makes, reduceLT, reduceEqDiff, reduceAdd, h0, hA.len, h1, Int.not_le.mp h1, h2, h3]
    rfl
  obtain ⟨n, rfl⟩ : ∃ n : Nat, i = n := ⟨i.toNat, by omega⟩
  have hn : n < g.length := by omega
  have hg : g[n]? = some g[n] := List.getElem?_eq_getElem hn
  obtain ⟨B, hi, hB⟩ := hA.el n _ hg
  have e : needsP g n k = g[n].contains k := by
    unfold needsP
    rw [Int.toNat_natCast, List.getD_eq_getElem?_getD, hg, decide_eq_true (show (0 : Int) ≤ n by omega), decide_eq_true (show (n : Int) < g.length by omega), decide_eq_true (show 0 ≤ k by omega), decide_eq_true (show k < g.length by omega)]
    rfl
  have L := needs7g_loop (call := cw) (mt := lookM mtl) (md := mds) A B g n k g[n] hi hB H (hl _ (List.getElem_mem hn)) g[n].length 0 (by omega)
  rw [List.drop_zero, show ((0 : Nat) : Int) = 0 from rfl] at L
  rw [e]
  by_cases ha : g[n].contains k = true
  · rw [if_pos ha] at L
    rw [ha]
    simp -implicitDefEqProofs only [c41, aW, ↓aP, makes, reduceLT, reduceEqDiff, reduceAdd, h0, hA.len, h1, h2, h3, L]
    rfl
  · rw [if_neg ha] at L
    rw [Bool.eq_false_iff.mpr ha]
    simp -implicitDefEqProofs only [c41, aW, ↓aP, makes, reduceLT, reduceEqDiff, reduceAdd, h0, hA.len, h1, h2, h3, L]
    rfl
theorem needs7g_call {A : AV} {g : List (List Int)} (hA : GraphA A g) (i k : Int) (hl : ∀ r ∈ g, r.length ≤ 1000000) (H : List AO) (id : Nat) : callV cw mds 41 [A, litI .i64 i, litI .i64 k] H id = some (.val (litB (needsP g i k)) none) := by
  have h := needs7g_tells hA i k hl []
  obtain ⟨e, xs, c, rfl⟩ := hA.sl
  exact callV_pure rfl rfl h rfl
def NR (f : FlatV) : List (List Int) := setN (needR f) (List.replicate f.names.length []) f.eqs
theorem NR_len (f : FlatV) : (NR f).length = f.names.length := by unfold NR; rw [setN_len]; simp
theorem eqn_h0 (q : Eqn) : (List.drop 0 q.cs).head? = some (litI .i64 q.var) := rfl
theorem needR_len (f : FlatV) (F : FitsS f) (q : Eqn) (hq : q ∈ f.eqs) (K : KOk f q) : (needR f q).length ≤ 51 := by
  have h3 := F.args q hq
  have h4 := begF_len f F q K
  unfold needR
  simp only [List.length_append]
  split <;> simp <;> omega
theorem NR_60 (f : FlatV) (F : FitsS f) (G : GoodF f) : ∀ r ∈ NR f, r.length ≤ 60 := by
  refine setN_rows (needR f) (fun r => r.length ≤ 60) f.eqs _ (fun r hr => by rw [List.eq_of_mem_replicate hr]; simp) fun q hq => ?_
  have := needR_len f F q hq (G.kok q hq)
  omega
theorem needs27_loop (f : FlatV) (F : FitsS f) (G : GoodF f) : ∀ (m i : Nat) (L : Rows), m + i = f.eqs.length → L.length = f.names.length → L.ok →
    ∃ L' : Rows, loopW (codeW cw (lookM mtl) mds c27l0) [1, 3, 4] [(1, .ptr 0 0), (3, .own 1 0 f.names.length 1 (some f.names.length)), (4, litI .i64 i)] [.row f.cs 29, .row (L.map (·.1)) 23] =
      some (.exit 0, [(1, .ptr 0 0), (3, .own 1 0 f.names.length 1 (some f.names.length)), (4, litI .i64 f.eqs.length), (13, litB false)], [.row f.cs 29, .row (L'.map (·.1)) 23]) ∧ L'.length = f.names.length ∧ L'.ok ∧ L'.map (·.2) = setN (needR f) (L.map (·.2)) (f.eqs.drop i)
  | 0, i, L, h, hl, hok => by
    have hi : i = f.eqs.length := by omega
    subst hi
    have l3 : Ai.load [.row f.cs 29, .row (L.map (·.1)) 23] none (.ptr 0 3) = some (eqsA f.eqs) := rfl
    refine ⟨L, loopW_out ?_ (by simp), hl, hok, by rw [List.drop_length]; rfl⟩
    simp -implicitDefEqProofs only [c27l0, aW, ↓aP, makes, reduceLT, reduceEqDiff, reduceAdd, fadr_ptr, Nat.zero_add, l3, lenV_eqs, Int.lt_irrefl]
  | m + 1, i, L, h, hl, hok => by
    have hi : i < f.eqs.length := by omega
    have hg : f.eqs[i]? = some f.eqs[i] := List.getElem?_eq_getElem hi
    have hlt : (i : Int) < f.eqs.length := by omega
    have hmem := List.getElem_mem hi
    rw [List.drop_eq_getElem_cons hi, setN]
    generalize f.eqs[i] = q at hg hmem
    have hv := G.var q hmem
    obtain ⟨B, hB, hc⟩ := need22_call f F q (F.args q hmem) (G.kok q hmem)
    have l3 : Ai.load [.row f.cs 29, .row (L.map (·.1)) 23] none (.ptr 0 3) = some (eqsA f.eqs) := rfl
    have lA : Ai.load [.row f.cs 29, .row (L.map (·.1)) 23] (some 8) (.ptr 0 0) = some (.agg f.cs) := load_agg rfl rfl
    have lq := load_ipA (H := [.row f.cs 29, .row (L.map (·.1)) 23]) (show (Eqn.cs q).length = 10 from rfl)
    have ia := iadr_ownI (r := 1) (n := f.names.length) (c := some f.names.length) hv.1 hv.2
    obtain ⟨eB, xB, cB, eqB⟩ := hB.cases
    have st : storeAt [.row f.cs 29, .row (L.map (·.1)) 23] 1 (.ptr 1 q.var.toNat) B = some [.row f.cs 29, .row (List.map (·.1) (L.set q.var.toNat (B, needR f q))) 23] := by
      rw [store_ptr (r := 1) (cs := L.map (·.1)) (t := 23) rfl (by simp; omega) (by rw [eqB]; rfl) (by rw [eqB]; rfl)]
      rw [List.map_set]; rfl
    obtain ⟨L', L1, q1, q2, q3⟩ := needs27_loop f F G m (i + 1) (L.set q.var.toNat (B, needR f q)) (by omega) (by simpa using hl) (fun p hp => by
      rcases List.mem_or_eq_of_mem_set hp with hp | rfl
      · exact hok p hp
      · exact hB)
    refine ⟨L', loopW_round ?_ L1, q1, q2, by rw [q3, List.map_set]⟩
    simp -implicitDefEqProofs only [c27l0, aW, ↓aP, makes, reduceLT, reduceEqDiff, reduceAdd, fadr_ptr, fadr_ip, Nat.zero_add, l3, lenV_eqs, hlt, iadr_eqs, hg, eqn_h0, lA, lq, hc, show mds 22 = Md.pure from rfl, ia, st, wrap1 (show i < 4611686018427387904 by have := F.eqs; omega)]
theorem whole_rows {L : Rows} (h : L.ok) : (L.map (·.1)).all whole = true := by
  rw [List.all_eq_true]
  intro a ha
  obtain ⟨p, hp, rfl⟩ := List.mem_map.1 ha
  exact (h p hp).whole
theorem needs27_call (f : FlatV) (F : FitsS f) (hG : goodOk f = true) : ∃ A, GraphA A (NR f) ∧ ∀ H id, callV cw mds 27 [flatA f] H id = some (.val A none) := by
  have G := goodF_of hG
  have hn := F.names
  have l1 : Ai.load [.row f.cs 29] none (.ptr 0 1) = some (strs f.names) := rfl
  have hm1 := mksV_ok (id := 1) (e := 1) (bytes := 24) (z := [.sl 0 [] (some 0)]) (t := 23) (n := f.names.length) (by omega) (by omega)
  rw [reps_one] at hm1
  obtain ⟨L, L1, q1, q2, q3⟩ := needs27_loop f F G f.eqs.length 0 (List.replicate f.names.length (.sl 0 [] (some 0), [])) (by omega) (by simp) (fun p hp => by rw [List.eq_of_mem_replicate hp]; exact RowA.nil)
  rw [show ((0 : Nat) : Int) = 0 from rfl, List.map_replicate] at L1
  rw [List.drop_zero, List.map_replicate] at q3
  have hg := graph_cat q2 (some f.names.length)
  rw [q3] at hg
  refine ⟨_, hg, fun H id => ?_⟩
  have told : cw 27 [flatA f] [] = some (.ret (.own 1 0 f.names.length 1 (some f.names.length)), [.row f.cs 29, .row (L.map (·.1)) 23]) := by
    refine cw_of fn27 (c := c27) rfl rfl rfl rfl ?_
    simp -implicitDefEqProofs only [c27, aW, ↓aP, makes, reduceLT, reduceEqDiff, reduceAdd, core_box, flat_f, List.length_nil, List.length_cons, fadr_ptr, Nat.zero_add, l1, lenV_strs, hm1, L1]
    rfl
  have fz := frz_own (H := [.row f.cs 29, .row (L.map (·.1)) 23]) (r := 1) (n := f.names.length) (k := 14) (cap := some f.names.length) (cs := L.map (·.1)) (t := 23) rfl (by simp [q1]) (whole_rows q2)
  rw [List.take_of_length_le (by simp [q1]), List.map_map] at fz
  exact callV_frz rfl rfl told fz
end
section
variable {call : CallF} {mt : MtF} {md : FuncId → Md}
theorem mem_h5 (m : MemV) : (List.drop 5 m.cs).head? = some (litI .i64 m.next) := rfl
theorem mem_h6 (m : MemV) : (List.drop 6 m.cs).head? = some (litI .i64 m.guard) := rfl
theorem slope_h0 (m : SlopeV) : (List.drop 0 m.cs).head? = some (litI .i64 m.guard) := rfl
theorem slope_h1 (m : SlopeV) : (List.drop 1 m.cs).head? = some (litI .i64 m.var) := rfl
theorem cross_h0 (m : CrossV) : (List.drop 0 m.cs).head? = some (litI .i64 m.guard) := rfl
theorem cross_h1 (m : CrossV) : (List.drop 1 m.cs).head? = some (copsA m.ops) := rfl
theorem en0_loop (f : FlatV) (F : FitsS f) (v3 : AV) (d : List Obj1) : ∀ (k i : Nat) (A : AV) (l : List Int) (o : List Obj1) (H : List AO), k + i = f.mems.length → l.length ≤ 1000 * i + 1000 → SlX A l o → Own H (o ++ ((0, f.cs, 29) :: d)) →
    ∃ A' o' H', loopW (codeW cw (lookM mtl) mds c23l0) [1, 3, 4, 5] [(1, .ptr 0 0), (3, v3), (4, A), (5, litI .i64 i)] H =
      some (.exit 0, [(1, .ptr 0 0), (3, v3), (4, A'), (5, litI .i64 f.mems.length), (28, litB false)], H') ∧ SlX A' (l ++ (f.mems.drop i).flatMap memL) o' ∧ Own H' (o' ++ ((0, f.cs, 29) :: d))
  | 0, i, A, l, o, H, h, hl, S, O => by
    have hi : i = f.mems.length := by omega
    subst hi
    have l4 : Ai.load H none (.ptr 0 4) = some (memsA f.mems) := own_load O (cs := f.cs) (t := 29) (by simp) rfl
    refine ⟨A, o, H, loopW_out ?_ (by simp), by rw [List.drop_length]; simpa using S, O⟩
    simp -implicitDefEqProofs only [c23l0, aW, ↓aP, makes, reduceLT, reduceEqDiff, reduceAdd, fadr_ptr, Nat.zero_add, l4, lenV_mems, Int.lt_irrefl]
  | k + 1, i, A, l, o, H, h, hl, S, O => by
    have hi : i < f.mems.length := by omega
    have hg : f.mems[i]? = some f.mems[i] := List.getElem?_eq_getElem hi
    have hlt : (i : Int) < f.mems.length := by omega
    have hb := F.mems
    have hmm := F.mres _ (List.getElem_mem hi)
    rw [List.drop_eq_getElem_cons hi, List.flatMap_cons, ← List.append_assoc]
    generalize f.mems[i] = m at hg hmm
    have l4 : Ai.load H none (.ptr 0 4) = some (memsA f.mems) := own_load O (cs := f.cs) (t := 29) (by simp) rfl
    obtain ⟨A2, o2, H2, ap, S2, O2⟩ := S.append O (RowA.of [m.next, m.guard] (some 2)) (by simp; omega)
    have l42 : Ai.load H2 none (.ptr 0 4) = some (memsA f.mems) := own_load O2 (cs := f.cs) (t := 29) (by simp) rfl
    obtain ⟨A3, o3, H3, ap2, S3, O3⟩ := S2.append O2 (RowA.of m.resets none) (by simp; omega)
    obtain ⟨A', o', H', L, S', O'⟩ := en0_loop f F v3 d k (i + 1) A3 _ o3 H3 (by omega) (by simp; omega) S3 O3
    refine ⟨A', o', H', loopW_round ?_ L, by rw [List.append_assoc] at S'; rw [memL]; simp only [List.append_assoc] at S' ⊢; exact S', O'⟩
    simp -implicitDefEqProofs only [c23l0, aW, ↓aP, makes, reduceLT, reduceEqDiff, reduceAdd, fadr_ptr, fadr_ip, Nat.zero_add, Nat.add_zero, l4, l42, lenV_mems, hlt, iadr_mems, hg, mem_h5, mem_h6, mem_h7, core_bsl, bslV_2r, ap.tlS, ap2.tlS, wrap1 (show i < 4611686018427387904 by omega)]
theorem en1_loop (f : FlatV) (m : ContV) (c : Nat) (v3 v6 : AV) (hn : m.slopes.length ≤ 100) (d : List Obj1) (hc : (c, m.cs, 90) ∈ d) : ∀ (k i : Nat) (A : AV) (l : List Int) (o : List Obj1) (H : List AO), k + i = m.slopes.length → l.length + 2 * k ≤ 900000 → SlX A l o → Own H (o ++ d) →
    ∃ A' o' H', loopW (codeW cw (lookM mtl) mds c23l1) [1, 3, 4, 6, 7, 8] [(1, .ptr 0 0), (3, v3), (4, A), (6, v6), (7, .ptr c 0), (8, litI .i64 i)] H =
      some (.exit 4, [(1, .ptr 0 0), (3, v3), (4, A'), (6, v6), (7, .ptr c 0), (8, litI .i64 m.slopes.length), (79, litB false)], H') ∧ SlX A' (l ++ (m.slopes.drop i).flatMap slopeL) o' ∧ Own H' (o' ++ d)
  | 0, i, A, l, o, H, h, hl, S, O => by
    have hi : i = m.slopes.length := by omega
    subst hi
    have l8 : Ai.load H none (.ptr c 8) = some (slopesA m.slopes) := own_load O (cs := m.cs) (t := 90) (by simp [hc]) rfl
    refine ⟨A, o, H, loopW_out ?_ (by simp), by rw [List.drop_length]; simpa using S, O⟩
    simp -implicitDefEqProofs only [c23l1, aW, ↓aP, makes, reduceLT, reduceEqDiff, reduceAdd, fadr_ptr, Nat.zero_add, l8, lenV_slopes, Int.lt_irrefl]
  | k + 1, i, A, l, o, H, h, hl, S, O => by
    have hi : i < m.slopes.length := by omega
    have hg : m.slopes[i]? = some m.slopes[i] := List.getElem?_eq_getElem hi
    have hlt : (i : Int) < m.slopes.length := by omega
    rw [List.drop_eq_getElem_cons hi, List.flatMap_cons, ← List.append_assoc]
    generalize m.slopes[i] = s at hg
    have l8 : Ai.load H none (.ptr c 8) = some (slopesA m.slopes) := own_load O (cs := m.cs) (t := 90) (by simp [hc]) rfl
    obtain ⟨A2, o2, H2, ap, S2, O2⟩ := S.append O (RowA.of [s.guard, s.var] (some 2)) (by simp; omega)
    obtain ⟨A', o', H', L, S', O'⟩ := en1_loop f m c v3 v6 hn d hc k (i + 1) A2 _ o2 H2 (by omega) (by simp; omega) S2 O2
    refine ⟨A', o', H', loopW_round ?_ L, S', O'⟩
    simp -implicitDefEqProofs only [c23l1, aW, ↓aP, makes, reduceLT, reduceEqDiff, reduceAdd, fadr_ptr, fadr_ip, Nat.zero_add, Nat.add_zero, l8, lenV_slopes, hlt, iadr_slopes, hg, slope_h0, slope_h1, core_bsl, bslV_2r, ap.tlS, wrap1 (show i < 4611686018427387904 by omega)]
theorem en2_loop (f : FlatV) (F : FitsS f) (v3 : AV) (d : List Obj1) : ∀ (k i : Nat) (A : AV) (l : List Int) (o : List Obj1) (H : List AO), k + i = f.conts.length → l.length + 1000 * k ≤ 800000 → SlX A l o → Own H (o ++ ((0, f.cs, 29) :: d)) →
    ∃ A' o' H', loopW (codeW cw (lookM mtl) mds c23l2) [1, 3, 4, 6] [(1, .ptr 0 0), (3, v3), (4, A), (6, litI .i64 i)] H =
      some (.exit 2, [(1, .ptr 0 0), (3, v3), (4, A'), (6, litI .i64 f.conts.length), (57, litB false)], H') ∧ SlX A' (l ++ (f.conts.drop i).flatMap contL) o' ∧ Own H' (o' ++ ((0, f.cs, 29) :: d))
  | 0, i, A, l, o, H, h, hl, S, O => by
    have hi : i = f.conts.length := by omega
    subst hi
    have l5 : Ai.load H none (.ptr 0 5) = some (contsA f.conts) := own_load O (cs := f.cs) (t := 29) (by simp) rfl
    refine ⟨A, o, H, loopW_out ?_ (by simp), by rw [List.drop_length]; simpa using S, O⟩
    simp -implicitDefEqProofs only [c23l2, aW, ↓aP, makes, reduceLT, reduceEqDiff, reduceAdd, fadr_ptr, Nat.zero_add, l5, lenV_conts, Int.lt_irrefl]
  | k + 1, i, A, l, o, H, h, hl, S, O => by
    have hi : i < f.conts.length := by omega
    have hg : f.conts[i]? = some f.conts[i] := List.getElem?_eq_getElem hi
    have hlt : (i : Int) < f.conts.length := by omega
    have hb := F.conts
    have hmm := F.cres _ (List.getElem_mem hi)
    have hss := F.slopes _ (List.getElem_mem hi)
    rw [List.drop_eq_getElem_cons hi, List.flatMap_cons]
    generalize f.conts[i] = m at hg hmm hss
    have l5 : Ai.load H none (.ptr 0 5) = some (contsA f.conts) := own_load O (cs := f.cs) (t := 29) (by simp) rfl
    have hA := load_ipA (H := H) (show (ContV.cs m).length = 9 from rfl)
    have O1 := own_newM O m.cs 90
    obtain ⟨A2, o2, H2, ap, S2, O2⟩ := S.append O1 (RowA.of [m.var, m.guard] (some 2)) (by simp; omega)
    obtain ⟨A3, o3, H3, ap2, S3, O3⟩ := S2.append O2 (RowA.of m.resets none) (by simp; omega)
    have L5 : Ai.load (H ++ [.row m.cs 90]) none (.ptr H.length 5) = some (litI .i64 m.var) := own_load O1 (cs := m.cs) (t := 90) (by simp) rfl
    have L6 : Ai.load (H ++ [.row m.cs 90]) none (.ptr H.length 6) = some (litI .i64 m.guard) := own_load O1 (cs := m.cs) (t := 90) (by simp) rfl
    have L7 : Ai.load (H ++ [.row m.cs 90]) none (.ptr H.length 7) = some (rowC m.resets none) := own_load O1 (cs := m.cs) (t := 90) (by simp) rfl
    have L72 : Ai.load H2 none (.ptr H.length 7) = some (rowC m.resets none) := own_load O2 (cs := m.cs) (t := 90) (by simp) rfl
    obtain ⟨A4, o4, H4, Ls, S4, O4⟩ := en1_loop f m H.length v3 (litI .i64 i) (by omega) _ (List.mem_cons_self ..) m.slopes.length 0 A3 _ o3 H3 (by omega) (by simp; omega) S3 O3
    rw [show ((0 : Nat) : Int) = 0 from rfl] at Ls
    rw [List.drop_zero] at S4
    have hsl : (m.slopes.flatMap slopeL).length = 2 * m.slopes.length := by
      clear hss S4 Ls
      induction m.slopes with
      | nil => rfl
      | cons s r ih => simp [slopeL] at ih ⊢; omega
    obtain ⟨A', o', H', L, S', O'⟩ := en2_loop f F v3 d k (i + 1) A4 _ o4 H4 (by omega) (by simp at hsl ⊢; omega) S4 (own_drop O4)
    refine ⟨A', o', H', loopW_round ?_ L, ?_, O'⟩
    · simp -implicitDefEqProofs only [c23l2, aW, ↓aP, makes, reduceLT, reduceEqDiff, reduceAdd, fadr_ptr, fadr_ip, Nat.zero_add, Nat.add_zero, l5, lenV_conts, hlt, iadr_conts, hg, hA, cont_st, L5, L6, L7, L72, core_bsl, bslV_2r, ap.tlS, ap2.tlS, Ls, wrap1 (show i < 4611686018427387904 by omega)]
    · rw [contL]
      simp only [List.append_assoc] at S' ⊢
      exact S'
theorem en3_loop (f : FlatV) (x : Nat) (m : CrossV) (hx : f.cross[x]? = some m) (v3 : AV) (hn : m.ops.length ≤ 100) (ha : ∀ o ∈ m.ops, isVS o = true → o.args ≠ []) (d : List Obj1) : ∀ (k i : Nat) (A : AV) (l : List Int) (o : List Obj1) (H : List AO), k + i = m.ops.length → l.length + 2 * k ≤ 900000 → SlX A l o → Own H (o ++ ((0, f.cs, 29) :: d)) →
    ∃ A' o' H', loopW (codeW cw (lookM mtl) mds c23l3) [1, 3, 4, 9, 10] [(1, .ptr 0 0), (3, v3), (4, A), (9, litI .i64 x), (10, litI .i64 i)] H =
      some (.exit 8, [(1, .ptr 0 0), (3, v3), (4, A'), (9, litI .i64 x), (10, litI .i64 m.ops.length), (121, litB false)], H') ∧ SlX A' (l ++ (m.ops.drop i).flatMap opL) o' ∧ Own H' (o' ++ ((0, f.cs, 29) :: d))
  | 0, i, A, l, o, H, h, hl, S, O => by
    have hi : i = m.ops.length := by omega
    subst hi
    have l6 : Ai.load H none (.ptr 0 6) = some (crossA f.cross) := own_load O (cs := f.cs) (t := 29) (by simp) rfl
    refine ⟨A, o, H, loopW_out ?_ (by simp), by rw [List.drop_length]; simpa using S, O⟩
    simp -implicitDefEqProofs only [c23l3, aW, ↓aP, makes, reduceLT, reduceEqDiff, reduceAdd, fadr_ptr, fadr_ip, Nat.zero_add, l6, iadr_cross, hx, cross_h1, lenV_cops, Int.lt_irrefl]
  | k + 1, i, A, l, o, H, h, hl, S, O => by
    have hi : i < m.ops.length := by omega
    have hg : m.ops[i]? = some m.ops[i] := List.getElem?_eq_getElem hi
    have hlt : (i : Int) < m.ops.length := by omega
    have haa := ha _ (List.getElem_mem hi)
    rw [List.drop_eq_getElem_cons hi, List.flatMap_cons, ← List.append_assoc]
    generalize m.ops[i] = c at hg haa
    have l6 : Ai.load H none (.ptr 0 6) = some (crossA f.cross) := own_load O (cs := f.cs) (t := 29) (by simp) rfl
    have hA := load_ipA (H := H) (show (COpV.cs c).length = 2 from rfl)
    have O1 := own_newM O c.cs 94
    have L0 : Ai.load (H ++ [.row c.cs 94]) none (.ptr H.length 0) = some (litS c.op) := own_load O1 (cs := c.cs) (t := 94) (by simp) rfl
    have L1 : Ai.load (H ++ [.row c.cs 94]) none (.ptr H.length 1) = some (rowC c.args none) := own_load O1 (cs := c.cs) (t := 94) (by simp) rfl
    have hw := wrap1 (show i < 4611686018427387904 by omega)
    cases hv : isVS c with
    | false =>
      obtain ⟨A', o', H', L, S', O'⟩ := en3_loop f x m hx v3 hn ha d k (i + 1) A l o _ (by omega) (by omega) S (own_drop O1)
      refine ⟨A', o', H', loopW_round ?_ L, by rw [show opL c = [] by simp [opL, hv], List.append_nil]; exact S', O'⟩
      unfold isVS at hv
      rw [Bool.or_eq_false_iff] at hv
      simp -implicitDefEqProofs only [c23l3, aW, ↓aP, makes, reduceLT, reduceEqDiff, reduceAdd, fadr_ptr, fadr_ip, Nat.zero_add, Nat.add_zero, l6, iadr_cross, hx, cross_h1, lenV_cops, hlt, iadr_cops, hg, hA, cop_st, L0, bin_isS, hv.1, hv.2, hw]
    | true =>
      obtain ⟨A2, o2, H2, ap, S2, O2⟩ := S.append O1 (RowA.of [c.args.headD 0] (some 1)) (by simp; omega)
      obtain ⟨A', o', H', L, S', O'⟩ := en3_loop f x m hx v3 hn ha d k (i + 1) A2 _ o2 _ (by omega) (by simp; omega) S2 (own_drop O2)
      refine ⟨A', o', H', loopW_round ?_ L, by rw [show opL c = [c.args.headD 0] by simp [opL, hv]]; exact S', O'⟩
      have hh := head_row (haa hv)
      unfold isVS at hv
      cases h1 : isS c.op [118, 97, 114] with
      | true => simp -implicitDefEqProofs only [c23l3, aW, ↓aP, makes, reduceLT, reduceEqDiff, reduceAdd, fadr_ptr, fadr_ip, Nat.zero_add, Nat.add_zero, l6, iadr_cross, hx, cross_h1, lenV_cops, hlt, iadr_cops, hg, hA, cop_st, L0, L1, hh, load_ip1, core_bsl, bslV_1r, ap.opS, bin_isS, h1, hw]
      | false =>
        rw [h1, Bool.false_or] at hv
        simp -implicitDefEqProofs only [c23l3, aW, ↓aP, makes, reduceLT, reduceEqDiff, reduceAdd, fadr_ptr, fadr_ip, Nat.zero_add, Nat.add_zero, l6, iadr_cross, hx, cross_h1, lenV_cops, hlt, iadr_cops, hg, hA, cop_st, L0, L1, hh, load_ip1, core_bsl, bslV_1r, ap.opS, bin_isS, h1, hv, hw]
theorem en4_loop (f : FlatV) (F : FitsS f) (hv : ∀ m ∈ f.cross, ∀ o ∈ m.ops, isVS o = true → o.args ≠ []) (v3 : AV) (d : List Obj1) : ∀ (k i : Nat) (A : AV) (l : List Int) (o : List Obj1) (H : List AO), k + i = f.cross.length → l.length + 1000 * k ≤ 800000 → SlX A l o → Own H (o ++ ((0, f.cs, 29) :: d)) →
    ∃ A' o' H', loopW (codeW cw (lookM mtl) mds c23l4) [1, 3, 4, 9] [(1, .ptr 0 0), (3, v3), (4, A), (9, litI .i64 i)] H =
      some (.exit 6, [(1, .ptr 0 0), (3, v3), (4, A'), (9, litI .i64 f.cross.length), (101, litB false)], H') ∧ SlX A' (l ++ (f.cross.drop i).flatMap crossL) o' ∧ Own H' (o' ++ ((0, f.cs, 29) :: d))
  | 0, i, A, l, o, H, h, hl, S, O => by
    have hi : i = f.cross.length := by omega
    subst hi
    have l6 : Ai.load H none (.ptr 0 6) = some (crossA f.cross) := own_load O (cs := f.cs) (t := 29) (by simp) rfl
    refine ⟨A, o, H, loopW_out ?_ (by simp), by rw [List.drop_length]; simpa using S, O⟩
    simp -implicitDefEqProofs only [c23l4, aW, ↓aP, makes, reduceLT, reduceEqDiff, reduceAdd, fadr_ptr, Nat.zero_add, l6, lenV_cross, Int.lt_irrefl]
  | k + 1, i, A, l, o, H, h, hl, S, O => by
    have hi : i < f.cross.length := by omega
    have hg : f.cross[i]? = some f.cross[i] := List.getElem?_eq_getElem hi
    have hlt : (i : Int) < f.cross.length := by omega
    have hb := F.cross
    have hmm := F.ops _ (List.getElem_mem hi)
    have hvv := hv _ (List.getElem_mem hi)
    rw [List.drop_eq_getElem_cons hi, List.flatMap_cons]
    generalize f.cross[i] = m at hg hmm hvv
    have l6 : Ai.load H none (.ptr 0 6) = some (crossA f.cross) := own_load O (cs := f.cs) (t := 29) (by simp) rfl
    obtain ⟨A2, o2, H2, ap, S2, O2⟩ := S.append O (RowA.of [m.guard] (some 1)) (by simp; omega)
    obtain ⟨A4, o4, H4, Ls, S4, O4⟩ := en3_loop f i m hg v3 (by omega) hvv d m.ops.length 0 A2 _ o2 H2 (by omega) (by simp; omega) S2 O2
    rw [show ((0 : Nat) : Int) = 0 from rfl] at Ls
    rw [List.drop_zero] at S4
    have hsl := opL_short m.ops
    obtain ⟨A', o', H', L, S', O'⟩ := en4_loop f F hv v3 d k (i + 1) A4 _ o4 H4 (by omega) (by simp at hsl ⊢; omega) S4 O4
    refine ⟨A', o', H', loopW_round ?_ L, ?_, O'⟩
    · simp -implicitDefEqProofs only [c23l4, aW, ↓aP, makes, reduceLT, reduceEqDiff, reduceAdd, fadr_ptr, fadr_ip, Nat.zero_add, Nat.add_zero, l6, lenV_cross, hlt, iadr_cross, hg, cross_h0, core_bsl, bslV_1r, ap.opS, Ls, wrap1 (show i < 4611686018427387904 by omega)]
    · rw [crossL]
      simp only [List.append_assoc, List.singleton_append, List.cons_append] at S' ⊢
      exact S'
def endB : List Bool → List Int → List Bool
  | bs_, [] => bs_
  | bs_, x :: r => endB (if 0 ≤ x then bs_.set x.toNat true else bs_) r
theorem endB_len : ∀ (l : List Int) (bs_ : List Bool), (endB bs_ l).length = bs_.length
  | [], _ => rfl
  | x :: r, bs_ => by rw [endB, endB_len r]; split <;> simp
theorem en5_loop (n : Nat) (d : List Obj1) (A : AV) (l : List Int) (o : List Obj1) (S : SlX A l o) (hl : l.length ≤ 1000000) (hr : ∀ x ∈ l, x < (n : Int)) : ∀ (k i : Nat) (bs_ : List Bool) (H : List AO), k + i = l.length → bs_.length = n → Own H (o ++ ((1, cellsB bs_, 4) :: d)) →
    ∃ H', loopW (codeW cw (lookM mtl) mds c23l5) [3, 4, 12] [(3, .own 1 0 n 1 (some n)), (4, A), (12, litI .i64 i)] H =
      some (.exit 10, [(3, .own 1 0 n 1 (some n)), (4, A), (12, litI .i64 l.length), (151, litB false)], H') ∧ Own H' (o ++ ((1, cellsB (endB bs_ (l.drop i)), 4) :: d))
  | 0, i, bs_, H, h, hb, O => by
    have hi : i = l.length := by omega
    subst hi
    refine ⟨H, loopW_out ?_ (by simp), by rw [List.drop_length]; exact O⟩
    simp -implicitDefEqProofs only [c23l5, aW, ↓aP, makes, reduceLT, reduceEqDiff, reduceAdd, S.lenV, Int.lt_irrefl]
  | k + 1, i, bs_, H, h, hb, O => by
    have hi : i < l.length := by omega
    have hg : l[i]? = some l[i] := List.getElem?_eq_getElem hi
    have hlt : (i : Int) < l.length := by omega
    have hx := hr _ (List.getElem_mem hi)
    obtain ⟨c, hc1, hc2⟩ := (reads_slx S O).el i _ hg
    rw [List.drop_eq_getElem_cons hi, endB]
    generalize l[i] = x at hg hx hc2
    have hw := wrap1 (show i < 4611686018427387904 by omega)
    by_cases h0 : 0 ≤ x
    · rw [if_pos h0]
      have ia := iadr_ownI (r := 1) (n := n) (c := some n) h0 hx
      have O1 : Own H ((1, cellsB bs_, 4) :: (o ++ d)) := O.perm List.perm_middle
      have st : storeAt H 1 (.ptr 1 x.toNat) (litB true) = some (setL H 1 (.row (cellsB (bs_.set x.toNat true)) 4)) := by
        rw [store_ptr O1.head (by simp [cellsB]; omega) rfl rfl]
        simp [cellsB]
      have O2 := (O1.set (cellsB (bs_.set x.toNat true)) 4).perm List.perm_middle.symm
      obtain ⟨H', L, O'⟩ := en5_loop n d A l o S hl hr k (i + 1) _ _ (by omega) (by simpa using hb) O2
      refine ⟨H', loopW_round ?_ L, O'⟩
      simp -implicitDefEqProofs only [c23l5, aW, ↓aP, makes, reduceLT, reduceEqDiff, reduceAdd, S.lenV, hlt, hc1, hc2, h0, ia, st, hw]
    · rw [if_neg h0]
      obtain ⟨H', L, O'⟩ := en5_loop n d A l o S hl hr k (i + 1) bs_ H (by omega) hb O
      refine ⟨H', loopW_round ?_ L, O'⟩
      simp -implicitDefEqProofs only [c23l5, aW, ↓aP, makes, reduceLT, reduceEqDiff, reduceAdd, S.lenV, hlt, hc1, hc2, h0, hw]
def endF (f : FlatV) : List Bool := endB (List.replicate f.names.length false) (endL f)
theorem end_call (f : FlatV) (F : FitsS f) (hG : goodOk f = true) (H : List AO) (id : Nat) : callV cw mds 23 [flatA f] H id = some (.val (boolsC (endF f) (some f.names.length)) none) := by
  have G := goodF_of hG
  have hn := F.names
  have e1 := F.mems; have e2 := F.conts; have e3 := F.cross; have e4 := F.outs; have e5 := F.again
  have hel := endL_len f F
  have l1 : Ai.load [.row f.cs 29] none (.ptr 0 1) = some (strs f.names) := rfl
  have hm1 := mksV_ok (id := 1) (e := 1) (bytes := 1) (z := [litB false]) (t := 4) (n := f.names.length) (by omega) (by omega)
  rw [reps_one] at hm1
  have hz : cellsB (List.replicate f.names.length false) = List.replicate f.names.length (litB false) := by simp [cellsB]
  have O0 : Own [AO.row f.cs 29, .row (List.replicate f.names.length (litB false)) 4] ([] ++ [(0, f.cs, 29), (1, cellsB (List.replicate f.names.length false), 4)]) := by
    rw [hz]
    refine ⟨by simp, fun x hx => ?_⟩
    simp only [List.nil_append, List.mem_cons, List.not_mem_nil, or_false] at hx
    rcases hx with rfl | rfl <;> rfl
  have l2 : Ai.load [.row f.cs 29, .row (List.replicate f.names.length (litB false)) 4] none (.ptr 0 2) = some (rowC f.outs none) := rfl
  have l7 : Ai.load [.row f.cs 29, .row (List.replicate f.names.length (litB false)) 4] none (.ptr 0 7) = some (rowC f.again none) := rfl
  obtain ⟨A1, o1, H1, ap1, S1, O1⟩ := (SlX.nil 0).append O0 (RowA.of f.outs none) (by simp; omega)
  have l71 : Ai.load H1 none (.ptr 0 7) = some (rowC f.again none) := own_load O1 (cs := f.cs) (t := 29) (by simp) rfl
  obtain ⟨A2, o2, H2, ap2, S2, O2⟩ := S1.append O1 (RowA.of f.again none) (by simp; omega)
  simp only [List.length_cons, List.length_nil, Nat.zero_add, reduceAdd] at ap1
  rw [List.nil_append] at S2
  obtain ⟨A3, o3, H3, L1, S3, O3⟩ := en0_loop f F (.own 1 0 f.names.length 1 (some f.names.length)) _ f.mems.length 0 A2 _ o2 H2 (by omega) (by simp; omega) S2 O2
  have k1 : (f.mems.flatMap memL).length ≤ 100 * f.mems.length := by
    have hm := F.mres
    generalize f.mems = ms at hm
    induction ms with
    | nil => simp
    | cons m r ih =>
      have h1 := hm m (List.mem_cons_self ..)
      have h2 := ih fun x hx => hm x (List.mem_cons_of_mem _ hx)
      simp only [List.flatMap_cons, List.length_append, memL, List.length_cons, List.length_nil] at h2 ⊢; omega
  have k2 : (f.conts.flatMap contL).length ≤ 300 * f.conts.length := by
    have hm := F.cres
    have hs := F.slopes
    generalize f.conts = ms at hm hs
    induction ms with
    | nil => simp
    | cons m r ih =>
      have h1 := hm m (List.mem_cons_self ..)
      have h3 := hs m (List.mem_cons_self ..)
      have h2 := ih (fun x hx => hm x (List.mem_cons_of_mem _ hx)) (fun x hx => hs x (List.mem_cons_of_mem _ hx))
      have hsl : (m.slopes.flatMap slopeL).length = 2 * m.slopes.length := by
        clear h1 h3 h2 hm hs ih
        induction m.slopes with
        | nil => rfl
        | cons s r ih => simp [slopeL] at ih ⊢; omega
      simp only [List.flatMap_cons, List.length_append, contL, List.length_cons, List.length_nil, hsl] at h2 ⊢; omega
  obtain ⟨A4, o4, H4, L2, S4, O4⟩ := en2_loop f F (.own 1 0 f.names.length 1 (some f.names.length)) _ f.conts.length 0 A3 _ o3 H3 (by omega) (by rw [List.drop_zero, List.length_append, List.length_append]; omega) S3 O3
  obtain ⟨A5, o5, H5, L3, S5, O5⟩ := en4_loop f F (fun m hm o ho hv => by obtain ⟨x, r, e, _⟩ := G.vs m hm o ho hv; rw [e]; simp) (.own 1 0 f.names.length 1 (some f.names.length)) _ f.cross.length 0 A4 _ o4 H4 (by omega) (by rw [List.drop_zero, List.drop_zero, List.length_append, List.length_append, List.length_append]; omega) S4 O4
  rw [show ((0 : Nat) : Int) = 0 from rfl] at L1 L2 L3
  rw [List.drop_zero, List.drop_zero, List.drop_zero] at S5
  change SlX A5 (endL f) o5 at S5
  have O5' : Own H5 (o5 ++ ((1, cellsB (List.replicate f.names.length false), 4) :: [(0, f.cs, 29)])) := O5.perm (List.Perm.append_left _ (List.Perm.swap ..))
  obtain ⟨H6, L4, O6⟩ := en5_loop f.names.length _ A5 (endL f) o5 S5 hel (endL_rng f G) (endL f).length 0 _ H5 (by omega) (by simp) O5'
  rw [show ((0 : Nat) : Int) = 0 from rfl] at L4
  rw [List.drop_zero] at O6
  change Own H6 (o5 ++ ((1, cellsB (endF f), 4) :: [(0, f.cs, 29)])) at O6
  have told : cw 23 [flatA f] [] = some (.ret (.own 1 0 f.names.length 1 (some f.names.length)), H6) := by
    refine cw_of fn23 (c := c23) rfl rfl rfl rfl ?_
    simp -implicitDefEqProofs only [c23, aW, ↓aP, makes, reduceLT, reduceEqDiff, reduceAdd, core_box, flat_f, List.length_nil, List.length_cons, fadr_ptr, Nat.zero_add, reduceAdd, l1, lenV_strs, hm1, l2, l7, l71, ap1.tlS, ap2.tlS, L1, L2, L3, L4]
    rfl
  have hb : (cellsB (endF f)).all whole = true := by
    rw [List.all_eq_true]; intro a ha
    obtain ⟨b, _, rfl⟩ := List.mem_map.1 ha; rfl
  have hlen : (cellsB (endF f)).length = f.names.length := by simp [cellsB, endF, endB_len]
  have fz := frz_own (H := H6) (r := 1) (n := f.names.length) (k := 14) (cap := some f.names.length) (cs := cellsB (endF f)) (t := 4) (O6.get (1, cellsB (endF f), 4) (by simp)) (by omega) hb
  rw [List.take_of_length_le (by omega)] at fz
  have e : List.map (fun a => [a]) (cellsB (endF f)) = (endF f).map fun b => [litB b] := by simp [cellsB]
  rw [e] at fz
  exact callV_frz rfl rfl told fz
end
section
variable {call : CallF} {mt : MtF} {md : FuncId → Md}
theorem place40_loop (B : AV) (r : List Int) (hB : RowA B r) (v : Int) (H : List AO) (hl : r.length ≤ 1000000) : ∀ (m n : Nat), m + n = r.length →
    loopW (codeW call mt md c40l0) [0, 1, 5] [(0, B), (1, litI .i64 v), (5, litI .i64 n)] H =
      some (if placeF v n (r.drop n) = -1 then (EX.exit 0, [(0, B), (1, litI .i64 v), (5, litI .i64 r.length), (9, litB false)], H) else (.ret, [(4, litI .i64 (placeF v n (r.drop n)))], H))
  | 0, n, h => by
    have hn : n = r.length := by omega
    subst hn
    rw [if_pos (by simp [placeF])]
    refine loopW_out ?_ (by simp)
    simp -implicitDefEqProofs only [c40l0, aW, ↓aP, makes, reduceLT, reduceEqDiff, reduceAdd, hB.lenV, Int.lt_irrefl]
  | m + 1, n, h => by
    have hn : n < r.length := by omega
    have hg : r[n]? = some r[n] := List.getElem?_eq_getElem hn
    have hlt : (n : Int) < r.length := by omega
    have hd : r.drop n = r[n] :: r.drop (n + 1) := List.drop_eq_getElem_cons hn
    rw [hd, placeF]
    by_cases h0 : r[n] = v
    · rw [if_pos h0, if_neg (by omega)]
      refine loopW_out ?_ (by simp)
      simp -implicitDefEqProofs only [c40l0, aW, ↓aP, makes, reduceLT, reduceEqDiff, reduceAdd, hB.lenV, hB.iadr hg, hlt, h0]
    · rw [if_neg h0]
      refine loopW_round ?_ (place40_loop B r hB v H hl m (n + 1) (by omega))
      have h0' : (r[n] == v) = false := by simp [h0]
      simp -implicitDefEqProofs only [c40l0, aW, ↓aP, makes, reduceLT, reduceEqDiff, reduceAdd, hB.lenV, hB.iadr hg, hlt, h0', wrap1 (show n < 4611686018427387904 by omega)]
theorem place40_call {B : AV} {r : List Int} (hB : RowA B r) (v : Int) (hl : r.length ≤ 1000000) (H : List AO) (id : Nat) : callV cw mds 40 [B, litI .i64 v] H id = some (.val (litI .i64 (placeI r v)) none) := by
  have h : cw 40 [B, litI .i64 v] [] = some (.ret (litI .i64 (placeI r v)), []) := by
    refine cw_of fn40 (c := c40) rfl rfl rfl rfl ?_
    have L := place40_loop (call := cw) (mt := lookM mtl) (md := mds) B r hB v [] hl r.length 0 (by omega)
    rw [List.drop_zero, show ((0 : Nat) : Int) = 0 from rfl] at L
    by_cases ha : placeF v 0 r = -1
    · rw [if_pos ha] at L
      rw [show placeI r v = -1 from ha]
      simp -implicitDefEqProofs only [c40, aW, ↓aP, makes, reduceLT, reduceEqDiff, reduceAdd, L]
      rfl
    · rw [if_neg ha] at L
      simp -implicitDefEqProofs only [c40, aW, ↓aP, makes, reduceLT, reduceEqDiff, reduceAdd, L]
      rfl
  obtain ⟨e, xs, c, rfl⟩ := hB.cases
  exact callV_pure rfl rfl h rfl
def maxR (g : List (List Int)) (v : Int) : Nat → List Int → Int → Int
  | _, [], acc => acc
  | i, o :: r, acc => maxR g v (i + 1) r (if needsP g o v = true then max acc i else acc)
def lastR (f : FlatV) (ord : List Int) (v : Nat) : Int := if (endF f).getD v false = true then ord.length else maxR (NR f) v 0 ord (placeI ord v)
def lastsR (f : FlatV) (ord : List Int) : List Int := (List.range f.names.length).map (lastR f ord)
theorem la0_loop (f : FlatV) (A B E : AV) (g : List (List Int)) (hA : GraphA A g) (hg6 : ∀ r ∈ g, r.length ≤ 1000000) (ord : List Int) (hB : RowA B ord) (hl : ord.length ≤ 1000000) (n v : Nat) (hv : v < n) : ∀ (m i : Nat) (out : List Int) (acc : Int), m + i = ord.length → out.length = n → out.getD v 0 = acc →
    loopW (codeW cw (lookM mtl) mds c21l0) [1, 2, 5, 6, 7, 8, 9] [(1, B), (2, .ptr 0 0), (5, A), (6, E), (7, .own 1 0 n 1 (some n)), (8, litI .i64 v), (9, litI .i64 i)] [.row f.cs 29, .row (cellsI out) 3] =
      some (.exit 2, [(1, B), (2, .ptr 0 0), (5, A), (6, E), (7, .own 1 0 n 1 (some n)), (8, litI .i64 v), (9, litI .i64 ord.length), (34, litB false)], [.row f.cs 29, .row (cellsI (out.set v (maxR g v i (ord.drop i) acc))) 3])
  | 0, i, out, acc, h, ho, ha => by
    have hi : i = ord.length := by omega
    subst hi
    rw [List.drop_length, maxR, ← ha]
    rw [show out.set v (out.getD v 0) = out by
      rw [List.getD_eq_getElem?_getD, List.getElem?_eq_getElem (by omega)]; exact List.set_getElem_self _]
    refine loopW_out ?_ (by simp)
    simp -implicitDefEqProofs only [c21l0, aW, ↓aP, makes, reduceLT, reduceEqDiff, reduceAdd, hB.lenV, Int.lt_irrefl]
  | m + 1, i, out, acc, h, ho, ha => by
    have hi : i < ord.length := by omega
    have hg : ord[i]? = some ord[i] := List.getElem?_eq_getElem hi
    have hlt : (i : Int) < ord.length := by omega
    rw [List.drop_eq_getElem_cons hi, maxR]
    generalize ord[i] = o at hg
    have hc := needs7g_call hA o v hg6
    have hw := wrap1 (show i < 4611686018427387904 by omega)
    cases hnp : needsP g o v with
    | false =>
      rw [hnp] at hc
      rw [if_neg (by simp)]
      refine loopW_round ?_ (la0_loop f A B E g hA hg6 ord hB hl n v hv m (i + 1) out acc (by omega) ho ha)
      simp -implicitDefEqProofs only [c21l0, aW, ↓aP, makes, reduceLT, reduceEqDiff, reduceAdd, hB.lenV, hlt, hB.iadr hg, hc, hw]
    | true =>
      rw [hnp] at hc
      rw [if_pos rfl]
      have ia := iadr_ownI (r := 1) (n := n) (c := some n) (x := (v : Int)) (by omega) (by omega)
      rw [Int.toNat_natCast] at ia
      have lo : Ai.load [.row f.cs 29, .row (cellsI out) 3] none (.ptr 1 v) = some (litI .i64 acc) := by
        rw [load_ptr (r := 1) (cs := cellsI out) (t := 3) rfl, cellsI_at, Ord.getI (by omega), ha]; rfl
      have st : storeAt [.row f.cs 29, .row (cellsI out) 3] 1 (.ptr 1 v) (litI .i64 (max acc i)) = some [.row f.cs 29, .row (cellsI (out.set v (max acc i))) 3] := by
        rw [store_ptr (r := 1) (cs := cellsI out) (t := 3) rfl (by rw [cellsI_len]; omega) rfl rfl]
        have e : (cellsI out).set v (litI .i64 (max acc i)) = cellsI (out.set v (max acc i)) := by simp [cellsI]
        rw [e]; rfl
      have ih := la0_loop f A B E g hA hg6 ord hB hl n v hv m (i + 1) (out.set v (max acc i)) (max acc i) (by omega) (by simpa using ho) (by rw [List.getD_eq_getElem?_getD, List.getElem?_set_self (by omega)]; rfl)
      rw [List.set_set] at ih
      refine loopW_round ?_ ih
      simp -implicitDefEqProofs only [c21l0, aW, ↓aP, makes, reduceLT, reduceEqDiff, reduceAdd, hB.lenV, hlt, hB.iadr hg, hc, ia, lo, core_maxi2 49 50 .i64 acc i, st, hw]
theorem la1_loop (f : FlatV) (A B : AV) (hA : GraphA A (NR f)) (hg6 : ∀ r ∈ NR f, r.length ≤ 1000000) (hnn : f.names.length ≤ 1000000) (ord : List Int) (hB : RowA B ord) (hl : ord.length ≤ 1000000) : ∀ (m v : Nat) (out : List Int), m + v = f.names.length → out.length = f.names.length → out.take v = (lastsR f ord).take v →
    loopW (codeW cw (lookM mtl) mds c21l1) [1, 2, 5, 6, 7, 8] [(1, B), (2, .ptr 0 0), (5, A), (6, boolsC (endF f) (some f.names.length)), (7, .own 1 0 f.names.length 1 (some f.names.length)), (8, litI .i64 v)] [.row f.cs 29, .row (cellsI out) 3] =
      some (.exit 0, [(1, B), (2, .ptr 0 0), (5, A), (6, boolsC (endF f) (some f.names.length)), (7, .own 1 0 f.names.length 1 (some f.names.length)), (8, litI .i64 f.names.length), (22, litB false)], [.row f.cs 29, .row (cellsI (lastsR f ord)) 3])
  | 0, v, out, h, ho, ht => by
    have hv : v = f.names.length := by omega
    subst hv
    have e : out = lastsR f ord := by
      rw [List.take_of_length_le (by omega), List.take_of_length_le (by simp [lastsR])] at ht; exact ht
    rw [e]
    have l1 : Ai.load [.row f.cs 29, .row (cellsI (lastsR f ord)) 3] none (.ptr 0 1) = some (strs f.names) := rfl
    refine loopW_out ?_ (by simp)
    simp -implicitDefEqProofs only [c21l1, aW, ↓aP, makes, reduceLT, reduceEqDiff, reduceAdd, fadr_ptr, Nat.zero_add, l1, lenV_strs, Int.lt_irrefl]
  | m + 1, v, out, h, ho, ht => by
    have hv : v < f.names.length := by omega
    have hlt : (v : Int) < f.names.length := by omega
    have l1 : ∀ x, Ai.load [.row f.cs 29, .row x 3] none (.ptr 0 1) = some (strs f.names) := fun _ => rfl
    have hp := place40_call hB v hl
    have ia := iadr_ownI (r := 1) (n := f.names.length) (c := some f.names.length) (x := (v : Int)) (by omega) (by omega)
    rw [Int.toNat_natCast] at ia
    have sto : ∀ (out : List Int) (x : Int), out.length = f.names.length → storeAt [.row f.cs 29, .row (cellsI out) 3] 1 (.ptr 1 v) (litI .i64 x) = some [.row f.cs 29, .row (cellsI (out.set v x)) 3] := by
      intro out x ho
      rw [store_ptr (r := 1) (cs := cellsI out) (t := 3) rfl (by rw [cellsI_len]; omega) rfl rfl]
      have e : (cellsI out).set v (litI .i64 x) = cellsI (out.set v x) := by simp [cellsI]
      rw [e]; rfl
    have s1 := sto out (placeI ord v) ho
    have L0 := la0_loop f A B (boolsC (endF f) (some f.names.length)) (NR f) hA hg6 ord hB hl f.names.length v hv ord.length 0 (out.set v (placeI ord v)) (placeI ord v) (by omega) (by simpa using ho) (by rw [List.getD_eq_getElem?_getD, List.getElem?_set_self (by omega)]; rfl)
    rw [show ((0 : Nat) : Int) = 0 from rfl, List.drop_zero, List.set_set] at L0
    have hE : iadr 1 (boolsC (endF f) (some f.names.length)) (litI .i64 v) = some (.ip [litB ((endF f).getD v false)]) := by
      have hl : (endF f).length = f.names.length := by simp [endF, endB_len]
      rw [iadr_bools, List.getD_eq_getElem?_getD, List.getElem?_eq_getElem (by omega)]; rfl
    have hw := wrap1 (show v < 4611686018427387904 by omega)
    have tk : ∀ x, x = lastR f ord v → (out.set v x).take (v + 1) = (lastsR f ord).take (v + 1) := by
      intro x hx
      rw [List.take_add_one, List.getElem?_set_self (by omega), List.take_set_of_le (by omega), ht, List.take_add_one]
      congr 1
      simp [lastsR, hv, hx]
    cases he : (endF f).getD v false with
    | true =>
      rw [he] at hE
      have s2 := sto (out.set v (maxR (NR f) v 0 ord (placeI ord v))) ord.length (by simpa using ho)
      rw [List.set_set] at s2
      have hL : lastR f ord v = ord.length := by unfold lastR; rw [if_pos he]
      refine loopW_round ?_ (la1_loop f A B hA hg6 hnn ord hB hl m (v + 1) (out.set v ord.length) (by omega) (by simpa using ho) (tk _ hL.symm))
      simp -implicitDefEqProofs only [c21l1, aW, ↓aP, makes, reduceLT, reduceEqDiff, reduceAdd, fadr_ptr, Nat.zero_add, l1, lenV_strs, hlt, hp, ia, s1, L0, hE, load_ip1, hB.lenV, s2, hw]
    | false =>
      rw [he] at hE
      have hL : lastR f ord v = maxR (NR f) v 0 ord (placeI ord v) := by unfold lastR; rw [if_neg (by rw [he]; simp)]
      refine loopW_round ?_ (la1_loop f A B hA hg6 hnn ord hB hl m (v + 1) (out.set v (maxR (NR f) v 0 ord (placeI ord v))) (by omega) (by simpa using ho) (tk _ hL.symm))
      simp -implicitDefEqProofs only [c21l1, aW, ↓aP, makes, reduceLT, reduceEqDiff, reduceAdd, fadr_ptr, Nat.zero_add, l1, lenV_strs, hlt, hp, ia, s1, L0, hE, load_ip1, hw]
theorem lasts_call (f : FlatV) (F : FitsS f) (hG : goodOk f = true) {B : AV} {ord : List Int} (hB : RowA B ord) (hl : ord.length ≤ 1000000) (H : List AO) (id : Nat) :
    callV cw mds 21 [flatA f, B] H id = some (.val (rowC (lastsR f ord) (some f.names.length)) none) := by
  have G := goodF_of hG
  have hn := F.names
  obtain ⟨A, hA, hN⟩ := needs27_call f F hG
  have hNc : ∀ H id, callV cw mds 27 [.agg f.cs] H id = some (.val A none) := hN
  have hEc : ∀ H id, callV cw mds 23 [.agg f.cs] H id = some (.val (boolsC (endF f) (some f.names.length)) none) := end_call f F hG
  have lA : Ai.load [.row f.cs 29] (some 8) (.ptr 0 0) = some (.agg f.cs) := load_agg rfl rfl
  have l1 : Ai.load [.row f.cs 29] none (.ptr 0 1) = some (strs f.names) := rfl
  have hm1 := mksV_ok (id := 1) (e := 1) (bytes := 8) (z := [litI .i64 0]) (t := 3) (n := f.names.length) (by omega) (by omega)
  rw [reps_one] at hm1
  have hz : cellsI (List.replicate f.names.length 0) = List.replicate f.names.length (litI .i64 0) := by simp [cellsI]
  have L := la1_loop f A B hA (fun r hr => by have := NR_60 f F G r hr; omega) (by omega) ord hB hl f.names.length 0 (List.replicate f.names.length 0) (by omega) (by simp) rfl
  rw [hz, show ((0 : Nat) : Int) = 0 from rfl] at L
  have hw : [flatA f, B].all wholeA = true := by obtain ⟨e, xs, c, rfl⟩ := hB.cases; rfl
  have hlen : (lastsR f ord).length = f.names.length := by simp [lastsR]
  have told : cw 21 [flatA f, B] [] = some (.ret (.own 1 0 f.names.length 1 (some f.names.length)), [.row f.cs 29, .row (cellsI (lastsR f ord)) 3]) := by
    refine cw_of fn21 (c := c21) rfl rfl rfl rfl ?_
    simp -implicitDefEqProofs only [c21, aW, ↓aP, makes, reduceLT, reduceEqDiff, reduceAdd, core_box, flat_f, List.length_nil, List.length_cons, lA, hNc, hEc, fadr_ptr, Nat.zero_add, l1, lenV_strs, hm1, L]
    rfl
  have fz := Ord.frz_ints (H := [.row f.cs 29, .row (cellsI (lastsR f ord)) 3]) (p := 1) (k := 14) (c := some f.names.length) (l := lastsR f ord) (z := []) (t := 3) (n := f.names.length) (by rw [List.append_nil]; rfl) rfl hlen.symm
  exact callV_frz rfl hw told fz
end
section
variable {call : CallF} {mt : MtF} {md : FuncId → Md}
theorem drop_range {n i : Nat} (h : i < n) : (List.range n).drop i = i :: (List.range n).drop (i + 1) := by
  rw [List.drop_eq_getElem_cons (by simpa using h)]; simp
end
section
variable {call : CallF} {mt : MtF} {md : FuncId → Md}
def behR (g : List (List Int)) (ord : List Int) (v k : Nat) : Bool := !(needsP g v k && decide (placeI ord k ≥ placeI ord v))
def varR (g : List (List Int)) (ord slots : List Int) (m : Int) (n v : Nat) : Bool := !(decide (placeI ord v < 0)) && !(decide (slots.getD v 0 < 0)) && !(decide (slots.getD v 0 ≥ m)) && (List.range n).all (behR g ord v)
def apartR (last ord slots : List Int) (i k : Nat) : Bool := !(slots.getD (ord.getD k 0).toNat 0 == slots.getD (ord.getD i 0).toNat 0 && decide (last.getD (ord.getD k 0).toNat 0 ≥ (i : Int)))
def rightR (f : FlatV) (ord slots : List Int) (m : Int) : Bool :=
  goodOk f && ((ord.length : Int) == (f.names.length : Int)) && ((slots.length : Int) == (f.names.length : Int)) && (List.range f.names.length).all (varR (NR f) ord slots m f.names.length) &&
    (List.range f.names.length).all fun i => (List.range i).all (apartR (lastsR f ord) ord slots i)
def rrH (f : FlatV) (O S : AV) (m : Int) : List AO := [.row f.cs 29, .row [O, S, litI .i64 m] 32]
section
variable (f : FlatV) (O S A : AV) (g : List (List Int)) (hA : GraphA A g) (hg : ∀ r ∈ g, r.length ≤ 1000000) (ord slots : List Int) (hO : RowA O ord) (hS : RowA S slots) (hol : ord.length ≤ 1000000) (m : Int) (n : Nat) (hn : n ≤ 100000)
include hA hg hO hS hol hn
theorem rr0_loop (v : Nat) : ∀ (j k : Nat), j + k = n →
    loopW (codeW cw (lookM mtl) mds c20l0) [2, 3, 5, 6, 7, 8, 9] [(2, .ptr 0 0), (3, .ptr 1 0), (5, litI .i64 n), (6, A), (7, litI .i64 v), (8, litI .i64 (placeI ord v)), (9, litI .i64 k)] (rrH f O S m) =
      some (if ((List.range n).drop k).all (behR g ord v) = true then (.exit 2, [(2, .ptr 0 0), (3, .ptr 1 0), (5, litI .i64 n), (6, A), (7, litI .i64 v), (8, litI .i64 (placeI ord v)), (9, litI .i64 n), (68, litB false)], rrH f O S m) else (.ret, [(4, litB false)], rrH f O S m))
  | 0, k, h => by
    have hk : k = n := by omega
    subst hk
    rw [List.drop_of_length_le (by simp), List.all_nil, if_pos rfl]
    refine loopW_out ?_ (by simp)
    simp -implicitDefEqProofs only [c20l0, aW, ↓aP, makes, reduceLT, reduceEqDiff, reduceAdd, Int.lt_irrefl]
  | j + 1, k, h => by
    have hk : k < n := by omega
    have hlt : (k : Int) < n := by omega
    rw [drop_range hk, List.all_cons]
    have hc := needs7g_call hA v k hg
    have hp := place40_call hO k hol
    have l0 : Ai.load (rrH f O S m) none (.ptr 1 0) = some O := rfl
    have ih := rr0_loop v j (k + 1) (by omega)
    have hw := wrap1 (show k < 4611686018427387904 by omega)
    unfold behR at ih ⊢
    cases h1 : needsP g v k with
    | false =>
      rw [h1] at hc
      rw [Bool.false_and, Bool.not_false, Bool.true_and]
      refine loopW_round ?_ ih
      simp -implicitDefEqProofs only [c20l0, aW, ↓aP, makes, reduceLT, reduceEqDiff, reduceAdd, hlt, hc, hw]
    | true =>
      rw [h1] at hc
      by_cases h2 : placeI ord k ≥ placeI ord v
      · rw [decide_eq_true h2, Bool.true_and, Bool.not_true, Bool.false_and, if_neg (by simp)]
        refine loopW_out ?_ (by simp)
        simp -implicitDefEqProofs only [c20l0, aW, ↓aP, makes, reduceLT, reduceEqDiff, reduceAdd, hlt, hc, fadr_ptr, Nat.zero_add, l0, hp, h2]
      · rw [decide_eq_false h2, Bool.true_and, Bool.not_false, Bool.true_and]
        refine loopW_round ?_ ih
        simp -implicitDefEqProofs only [c20l0, aW, ↓aP, makes, reduceLT, reduceEqDiff, reduceAdd, hlt, hc, fadr_ptr, Nat.zero_add, l0, hp, h2, hw]
theorem rr1_loop (hsl : slots.length = n) : ∀ (j v : Nat), j + v = n →
    loopW (codeW cw (lookM mtl) mds c20l1) [2, 3, 5, 6, 7] [(2, .ptr 0 0), (3, .ptr 1 0), (5, litI .i64 n), (6, A), (7, litI .i64 v)] (rrH f O S m) =
      some (if ((List.range n).drop v).all (varR g ord slots m n) = true then (.exit 0, [(2, .ptr 0 0), (3, .ptr 1 0), (5, litI .i64 n), (6, A), (7, litI .i64 n), (39, litB false)], rrH f O S m) else (.ret, [(4, litB false)], rrH f O S m))
  | 0, v, h => by
    have hv : v = n := by omega
    subst hv
    rw [List.drop_of_length_le (by simp), List.all_nil, if_pos rfl]
    refine loopW_out ?_ (by simp)
    simp -implicitDefEqProofs only [c20l1, aW, ↓aP, makes, reduceLT, reduceEqDiff, reduceAdd, Int.lt_irrefl]
  | j + 1, v, h => by
    have hv : v < n := by omega
    have hlt : (v : Int) < n := by omega
    rw [drop_range hv, List.all_cons]
    have hp := place40_call hO v hol
    have l0 : Ai.load (rrH f O S m) none (.ptr 1 0) = some O := rfl
    have l1 : Ai.load (rrH f O S m) none (.ptr 1 1) = some S := rfl
    have l2 : Ai.load (rrH f O S m) none (.ptr 1 2) = some (litI .i64 m) := rfl
    have iS := hS.iadr (n := v) (x := slots.getD v 0) (Ord.getI (by omega))
    have ih := rr1_loop hsl j (v + 1) (by omega)
    have L0 := rr0_loop f O S A g hA hg ord slots hO hS hol m n hn v n 0 (by omega)
    rw [show ((0 : Nat) : Int) = 0 from rfl, List.drop_zero] at L0
    have hw := wrap1 (show v < 4611686018427387904 by omega)
    by_cases h1 : placeI ord v < 0
    · have e : varR g ord slots m n v = false := by unfold varR; rw [decide_eq_true h1]; rfl
      rw [e, Bool.false_and, if_neg (by simp)]
      refine loopW_out ?_ (by simp)
      simp -implicitDefEqProofs only [c20l1, aW, ↓aP, makes, reduceLT, reduceEqDiff, reduceAdd, hlt, fadr_ptr, Nat.zero_add, l0, hp, h1]
    by_cases h2 : slots.getD v 0 < 0
    · have e : varR g ord slots m n v = false := by unfold varR; rw [decide_eq_true h2, Bool.not_true, Bool.and_false]; rfl
      rw [e, Bool.false_and, if_neg (by simp)]
      refine loopW_out ?_ (by simp)
      simp -implicitDefEqProofs only [c20l1, aW, ↓aP, makes, reduceLT, reduceEqDiff, reduceAdd, hlt, fadr_ptr, Nat.zero_add, l0, hp, h1, l1, iS, load_ip1, h2]
    by_cases h3 : slots.getD v 0 ≥ m
    · have e : varR g ord slots m n v = false := by unfold varR; rw [decide_eq_true h3, Bool.not_true, Bool.and_false]; rfl
      rw [e, Bool.false_and, if_neg (by simp)]
      refine loopW_out ?_ (by simp)
      simp -implicitDefEqProofs only [c20l1, aW, ↓aP, makes, reduceLT, reduceEqDiff, reduceAdd, hlt, fadr_ptr, Nat.zero_add, l0, hp, h1, l1, iS, load_ip1, h2, l2, h3]
    have e : varR g ord slots m n v = (List.range n).all (behR g ord v) := by unfold varR; rw [decide_eq_false h1, decide_eq_false h2, decide_eq_false h3]; rfl
    rw [e]
    cases h4 : (List.range n).all (behR g ord v) with
    | false =>
      rw [h4, if_neg (by simp)] at L0
      rw [Bool.false_and, if_neg (by simp)]
      refine loopW_out ?_ (by simp)
      simp -implicitDefEqProofs only [c20l1, aW, ↓aP, makes, reduceLT, reduceEqDiff, reduceAdd, hlt, fadr_ptr, Nat.zero_add, l0, hp, h1, l1, iS, load_ip1, h2, l2, h3, L0]
    | true =>
      rw [h4, if_pos rfl] at L0
      rw [Bool.true_and]
      refine loopW_round ?_ ih
      simp -implicitDefEqProofs only [c20l1, aW, ↓aP, makes, reduceLT, reduceEqDiff, reduceAdd, hlt, fadr_ptr, Nat.zero_add, l0, hp, h1, l1, iS, load_ip1, h2, l2, h3, L0, hw]
end
section
variable (f : FlatV) (O S : AV) (ord slots : List Int) (hO : RowA O ord) (hS : RowA S slots) (m : Int) (n : Nat) (hn : n ≤ 100000) (last : List Int) (c : Option Nat) (hll : last.length = n) (hsl : slots.length = n) (hol : ord.length = n) (hr : ∀ x ∈ ord, 0 ≤ x ∧ x < (n : Int))
include hO hS hn hll hsl hol hr
theorem rr2_loop (i : Nat) (hi : i < n) : ∀ (j k : Nat), j + k = i →
    loopW (codeW cw (lookM mtl) mds c20l2) [3, 5, 10, 11, 12] [(3, .ptr 1 0), (5, litI .i64 n), (10, rowC last c), (11, litI .i64 i), (12, litI .i64 k)] (rrH f O S m) =
      some (if ((List.range i).drop k).all (apartR last ord slots i) = true then (.exit 6, [(3, .ptr 1 0), (5, litI .i64 n), (10, rowC last c), (11, litI .i64 i), (12, litI .i64 i), (94, litB false)], rrH f O S m) else (.ret, [(4, litB false)], rrH f O S m))
  | 0, k, h => by
    have hk : k = i := by omega
    subst hk
    rw [List.drop_of_length_le (by simp), List.all_nil, if_pos rfl]
    refine loopW_out ?_ (by simp)
    simp -implicitDefEqProofs only [c20l2, aW, ↓aP, makes, reduceLT, reduceEqDiff, reduceAdd, Int.lt_irrefl]
  | j + 1, k, h => by
    have hk : k < i := by omega
    have hlt : (k : Int) < i := by omega
    rw [drop_range hk, List.all_cons]
    have ga : ord[k]? = some (ord.getD k 0) := Ord.getI (by omega)
    have gb : ord[i]? = some (ord.getD i 0) := Ord.getI (by omega)
    have ra := hr _ (List.mem_of_getElem? ga)
    have rb := hr _ (List.mem_of_getElem? gb)
    have ih := rr2_loop i hi j (k + 1) (by omega)
    unfold apartR at ih ⊢
    generalize ord.getD k 0 = a at ga ra ⊢
    generalize ord.getD i 0 = b at gb rb ih ⊢
    have l0 : Ai.load (rrH f O S m) none (.ptr 1 0) = some O := rfl
    have l1 : Ai.load (rrH f O S m) none (.ptr 1 1) = some S := rfl
    have iA : iadr 1 S (litI .i64 a) = some (.ip [litI .i64 (slots.getD a.toNat 0)]) := by
      have := hS.iadr (n := a.toNat) (x := slots.getD a.toNat 0) (Ord.getI (by omega))
      rw [Int.toNat_of_nonneg ra.1] at this; exact this
    have iB : iadr 1 S (litI .i64 b) = some (.ip [litI .i64 (slots.getD b.toNat 0)]) := by
      have := hS.iadr (n := b.toNat) (x := slots.getD b.toNat 0) (Ord.getI (by omega))
      rw [Int.toNat_of_nonneg rb.1] at this; exact this
    have iL : iadr 1 (rowC last c) (litI .i64 a) = some (.ip [litI .i64 (last.getD a.toNat 0)]) := by
      have := iadr_row last c a.toNat
      rw [Int.toNat_of_nonneg ra.1, Ord.getI (by omega)] at this
      exact this
    have hw := wrap1 (show k < 4611686018427387904 by omega)
    cases h1 : (slots.getD a.toNat 0 == slots.getD b.toNat 0) with
    | false =>
      rw [Bool.false_and, Bool.not_false, Bool.true_and]
      refine loopW_round ?_ ih
      simp -implicitDefEqProofs only [c20l2, aW, ↓aP, makes, reduceLT, reduceEqDiff, reduceAdd, hlt, fadr_ptr, Nat.zero_add, l0, l1, hO.iadr ga, hO.iadr gb, load_ip1, iA, iB, h1, hw]
    | true =>
      by_cases h2 : last.getD a.toNat 0 ≥ (i : Int)
      · rw [decide_eq_true h2, Bool.true_and, Bool.not_true, Bool.false_and, if_neg (by simp)]
        refine loopW_out ?_ (by simp)
        simp -implicitDefEqProofs only [c20l2, aW, ↓aP, makes, reduceLT, reduceEqDiff, reduceAdd, hlt, fadr_ptr, Nat.zero_add, l0, l1, hO.iadr ga, hO.iadr gb, load_ip1, iA, iB, h1, iL, h2]
      · rw [decide_eq_false h2, Bool.true_and, Bool.not_false, Bool.true_and]
        refine loopW_round ?_ ih
        simp -implicitDefEqProofs only [c20l2, aW, ↓aP, makes, reduceLT, reduceEqDiff, reduceAdd, hlt, fadr_ptr, Nat.zero_add, l0, l1, hO.iadr ga, hO.iadr gb, load_ip1, iA, iB, h1, iL, h2, hw]
theorem rr3_loop : ∀ (j i : Nat), j + i = n →
    loopW (codeW cw (lookM mtl) mds c20l3) [3, 5, 10, 11] [(3, .ptr 1 0), (5, litI .i64 n), (10, rowC last c), (11, litI .i64 i)] (rrH f O S m) =
      some (if ((List.range n).drop i).all (fun i => (List.range i).all (apartR last ord slots i)) = true then (.exit 4, [(3, .ptr 1 0), (5, litI .i64 n), (10, rowC last c), (11, litI .i64 n), (89, litB false)], rrH f O S m) else (.ret, [(4, litB false)], rrH f O S m))
  | 0, i, h => by
    have hi : i = n := by omega
    subst hi
    rw [List.drop_of_length_le (by simp), List.all_nil, if_pos rfl]
    refine loopW_out ?_ (by simp)
    simp -implicitDefEqProofs only [c20l3, aW, ↓aP, makes, reduceLT, reduceEqDiff, reduceAdd, Int.lt_irrefl]
  | j + 1, i, h => by
    have hi : i < n := by omega
    have hlt : (i : Int) < n := by omega
    rw [drop_range hi, List.all_cons]
    have L0 := rr2_loop f O S ord slots hO hS m n hn last c hll hsl hol hr i hi i 0 (by omega)
    rw [show ((0 : Nat) : Int) = 0 from rfl, List.drop_zero] at L0
    have hw := wrap1 (show i < 4611686018427387904 by omega)
    cases h4 : (List.range i).all (apartR last ord slots i) with
    | false =>
      rw [h4, if_neg (by simp)] at L0
      rw [Bool.false_and, if_neg (by simp)]
      refine loopW_out ?_ (by simp)
      simp -implicitDefEqProofs only [c20l3, aW, ↓aP, makes, reduceLT, reduceEqDiff, reduceAdd, hlt, L0]
    | true =>
      rw [h4, if_pos rfl] at L0
      rw [Bool.true_and]
      refine loopW_round ?_ (rr3_loop j (i + 1) (by omega))
      simp -implicitDefEqProofs only [c20l3, aW, ↓aP, makes, reduceLT, reduceEqDiff, reduceAdd, hlt, L0, hw]
end
end
end Go.Proofs.Ytcgbdndkfonphaa.Ai
