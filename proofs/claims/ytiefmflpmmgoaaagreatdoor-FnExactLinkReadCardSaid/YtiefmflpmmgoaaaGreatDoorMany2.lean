/- The contracts of this claim, laid together: part 2. -/
import Derived.Test.YtiefmflpmmgoaaaGreatDoorMany1
import Derived.Test.YtiefmflpmmgoaaaGreatDoorC
import Derived.Test.YtiefmflpmmgoaaaGreatDoorOFnExactLinkRead
/- LinkRead of the program. -/
set_option linter.unusedVariables false
set_option linter.unusedSimpArgs false
namespace Go.F
open Go.HM Go.Proofs
/-- An instruction behind those of a function; it is read meanwhile. -/
theorem Ji.ins_at {σ σi : Heap} {o : LinkImage} {vr vf : V} {Rr Rf : List Nat} (h : Ji σ o vr vf σi Rr Rf) {i : Nat} {f : LinkFun} (hf : o.funs[i]? = some f) (hl : f.code.length ≤ 2097152) :
    ∃ r o' vc, vidx 6 vf (i : Int) = some (r, o') ∧ rdc σi r (o' + 5) 1 = some [vc] ∧ ∀ (σ1 : Heap) (x : CodeIns), Lh (prot [r] σi) σ1 →
      ∃ vc' σ2 σ3 Rr' Rf', vappend 2 16 (unprot [r] (unprot [r] σi σ1) (prot [r] (unprot [r] σi σ1))) vc 1 [.int .i64 x.op, .int .i64 x.a] = some (vc', σ2) ∧ isSl vc' = true ∧ wrc σ2 r (o' + 5) [vc'] = some σ3 ∧
        J2 1 6 RInt RLFunA σ o.mains (o.funs.set i { f with code := f.code ++ [x] }) vr vf σ3 Rr' Rf' := by
  obtain ⟨r, o', vc, _, _, k1, k2, _⟩ := h.ins hf ⟨0, 0⟩ hl
  refine ⟨r, o', vc, k1, k2, fun σ1 x l1 => ?_⟩
  have l2 := Lh.unprots (rs := [r]) l1
  rw [unprots0]
  obtain ⟨r2, o2, vc2, vc', σ2, g1, g2, g3, g4, σ3, Rr', Rf', g5, g6⟩ := Ji.ins (o := o) (h.up ownInt ownLFunA l2) hf x hl
  rw [k1] at g1
  injection g1 with g1
  injection g1 with e1 e2
  subst e1 e2
  rw [l2.rdc k2] at g2
  injection g2 with g2
  injection g2 with g2
  subst g2
  exact ⟨vc', σ2, σ3, Rr', Rf', g3, g4, g5, g6⟩
/-- What both hand back: the image that is written as the text, or none. -/
def RdIP (σ : Heap) (t : List UInt8) (w : V) (σ' : Heap) : Prop :=
  (∃ o vr vf R, RdI t o ∧ w = .tuple [.agg [vf, vr], .bool true] ∧ ImgW σ o vr vf σ' R) ∨ ((∀ o, ¬ RdI t o) ∧ w = .tuple [.agg [.nils, .nils], .bool false] ∧ Lh σ σ')
theorem imgL_len {o : LinkImage} (h : ImgIs o) : (imgL o).length ≤ 200000 := by
  have h1 := lfuns_le h o.funs.length (Nat.le_refl _)
  have h2 := mains_le h o.mains.length (Nat.le_refl _)
  unfold imgL
  simp only [List.length_append, List.length_cons, List.length_nil]
  omega
theorem imgL_ne (o : LinkImage) : imgL o ≠ [] := by
  unfold imgL
  simp
theorem addLIns_at {l : List LinkFun} {f : LinkFun} (h : l[l.length - 1]? = some f) (x : CodeIns) : addLIns l x = l.set (l.length - 1) { f with code := f.code ++ [x] } := by
  unfold addLIns
  rw [h]
theorem lcode_tot {o : LinkImage} {n : Nat} (h : ImgB o n) {f : LinkFun} (hf : f ∈ o.funs) : f.code.length ≤ n := by
  have h1 := h.2.2
  have h2 := tot_mem (f := LinkFun.total) hf
  rw [LinkImage.total_eq] at h1
  rw [LinkFun.total_eq] at h2
  omega
theorem img_lens {o : LinkImage} {n : Nat} (h : ImgB o n) : o.mains.length ≤ n ∧ o.funs.length ≤ n := by
  have h1 := h.2.2
  rw [LinkImage.total_eq] at h1
  omega
set_option maxHeartbeats 7000000 in
theorem implLinkRead_ends {σ : Heap} (hR : ReadV σ) (s : ByteArray) (hs : s.size ≤ 1048576) : HM.Ends G n_impl_LinkRead [.str s] σ (RdIP σ s.data.toList) := by
  refine HM.Ends.mk (W.to (fun k _ => impl_LinkRead.eq k _ _) ?_)
  have hsz := ba_list s
  refine W.ite (fun hbig => W.ret (.inr ⟨fun o ho => ?_, rfl, Lh.refl _⟩)) fun hsm => ?_
  · have := imgL_len ho.1
    rw [ho.2] at this
    omega
  refine W.call (linesOf_ends hR.mx s hs) ?_
  rintro w0 σ0 ⟨l0, hL⟩
  have hR0 := hR.le l0
  have hn := split_len 10 (trimL 10 s.data.toList)
  have hel := split_le 10 (trimL 10 s.data.toList)
  have htot := split_tot 10 (trimL 10 s.data.toList)
  have htl := trim_le 10 s.data.toList
  have hres : imgP s.data.toList = ((splitL 10 (trimL 10 s.data.toList)).map wordsP).foldl lstepP ⟨[], []⟩ := by unfold imgP; rw [List.foldl_map]
  have hB := imgP_B s.data.toList
  generalize splitL 10 (trimL 10 s.data.toList) = ls at hL hn hel htot hres
  have hBi : ∀ i, ImgB (((ls.map wordsP).take i).foldl lstepP ⟨[], []⟩) 700000 := fun i => by
    rw [← List.map_take, List.foldl_map]
    refine (ifold_B lstepPl_B (ls.take i) _ _ izero_B).mono ?_
    have h1 := take_tot List.length ls i
    have h2 : (ls.take i).length ≤ ls.length := by rw [List.length_take]; omega
    omega
  have hwl : ∀ ws, ws ∈ ls.map wordsP → 0 < ws.length ∧ ∀ x, x ∈ ws → x.length ≤ 200000 := fun ws hws => by
    obtain ⟨l, hl, rfl⟩ := List.mem_map.1 hws
    refine ⟨by unfold wordsP splitL; simp, fun x hx => ?_⟩
    have h1 := split_le 32 l x hx
    have h2 := hel l hl
    omega
  have hlen : (ls.map wordsP).length ≤ 200001 := by rw [List.length_map]; omega
  clear hel htot hn
  generalize ls.map wordsP = L at hL hres hBi hwl hlen
  refine W.len hL ?_
  refine W.loop (S := Nat × V × V × Heap) (fun s => s.1 ≤ L.length ∧ ∃ Rr Rf, Ji σ0 ((L.take s.1).foldl lstepP ⟨[], []⟩) s.2.1 s.2.2.1 s.2.2.2 Rr Rf)
    (fun x => [.v (.str s), .box [.nils, .nils], .box [x.2.2.1, x.2.1], .v w0, .v (.int .i64 (L.length : Int)), .v (.int .i64 (x.1 : Int))]) (fun x => x.2.2.2) (fun x => L.length - x.1) (fun ⟨i, vr, vf, σi⟩ ⟨hi, Rr, Rf, hJ⟩ => ?_)
    (0, .nils, .nils, σ0) ⟨Nat.zero_le _, [], [], J2.start σ0⟩
  simp only at hi hJ ⊢
  refine W.to (fun k _ => by rw [impl_LinkRead.L0_step]) ?_
  refine B.ite (fun hlt => ?_) fun hlt => ?_
  · have hil : i < L.length := by omega
    have hx : L[i]? = some L[i] := List.getElem?_eq_getElem hil
    have hxw := hwl L[i] (List.getElem_mem hil)
    generalize L[i] = ws at hx hxw
    obtain ⟨hpos, hwx⟩ := hxw
    have hnext : (L.take (i + 1)).foldl lstepP ⟨[], []⟩ = lstepP ((L.take i).foldl lstepP ⟨[], []⟩) ws := by rw [take_next' hx, List.foldl_append]; rfl
    have hBo := hBi i
    generalize (L.take i).foldl lstepP ⟨[], []⟩ = o at hJ hnext hBo
    obtain ⟨b1, b2⟩ := img_lens hBo
    obtain ⟨r, o', hv, cs, hr, v, rfl, hws⟩ := hL.at' hx
    have hr' := hJ.le.rdc hr
    have hws' := hws.le hJ.le
    have hvl := hws'.vlen
    rw [List.length_map] at hvl
    obtain ⟨r0, o0, hv0, hr0⟩ := word_at hws' (i := 0) hpos
    have hv0' : vidx 1 v 0 = some (r0, o0) := hv0
    have hwr := wrap_next hil (by omega)
    have eref : decide (ba (wd ws 0) = (⟨#[109, 97, 105, 110]⟩ : ByteArray)) = decide (wd ws 0 = mainB) := dec_ba _ _
    have efun : decide (ba (wd ws 0) = (⟨#[102, 117, 110]⟩ : ByteArray)) = decide (wd ws 0 = funW) := dec_ba _ _
    have skip : ∀ (hn : lstepP o ws = o), W (ι := Nat × Unit) (RdIP σ s.data.toList) (Nxt (fun _ => False) impl_LinkRead.L0 (fun k (_ : Unit) => impl_LinkRead.A0 k) (fun s => s.1 ≤ L.length ∧ ∃ Rr Rf, Ji σ0 ((L.take s.1).foldl lstepP ⟨[], []⟩) s.2.1 s.2.2.1 s.2.2.2 Rr Rf)
      (fun x : Nat × V × V × Heap => [.v (.str s), .box [.nils, .nils], .box [x.2.2.1, x.2.1], .v w0, .v (.int .i64 (L.length : Int)), .v (.int .i64 (x.1 : Int))]) (fun x => x.2.2.2) (fun x => L.length - x.1) (L.length - i))
      (fun k jm => (impl_LinkRead.L0 k jm.1 [.v (.str s), .box [.nils, .nils], .box [vf, vr], .v w0, .v (.int .i64 (L.length : Int)), .v (.int .i64 ((i + 1 : Nat) : Int))] σi).bind (impl_LinkRead.A0 k)) := fun hn =>
      W.again (i + 1, vr, vf, σi) ⟨by show i + 1 ≤ L.length; omega, Rr, Rf, by show Ji σ0 ((L.take (i + 1)).foldl lstepP ⟨[], []⟩) vr vf σi Rr Rf; rw [hnext, hn]; exact hJ⟩ (by simp only; omega) rfl rfl
    by_cases h2 : ws.length = 2
    · have d2 : decide (((ws.length : Nat) : Int) = 2) = true := decide_eq_true (by omega)
      have d6 : decide (((ws.length : Nat) : Int) = 5) = false := decide_eq_false (by omega)
      obtain ⟨r1, o1, hv1, hr1⟩ := word_at hws' (i := 1) (by omega)
      have hv1' : vidx 1 v 1 = some (r1, o1) := hv1
      by_cases hf : wd ws 0 = mainB
      · have hst : lstepP o ws = ⟨o.funs, o.mains ++ [numR (wd ws 1)]⟩ := by unfold lstepP; rw [if_pos ⟨hf, h2⟩]
        try simp only [q_bind_some, castInt_int, q_castBool, q_castStr, q_castPtr, q_castFn, q_castAgg, q_castTuple, q_uncons, q_isNil, q_sl, q_nils, q_emp, q_ptr, q_nilp, q_fn, q_cond_true, q_cond_false, Bool.not_true, Bool.not_false, decide_true, decide_false, List.cons_append, List.nil_append, hv, hr', hv0', hr0, eref, decide_eq_true hf, hvl, d2, hv1', hr1]
        refine B.call (decimal_ends' (hR0.le hJ.le).nm (s := ba (wd ws 1)) (by rw [ba_size]; have := hwx _ (List.mem_of_getElem? (wd_some (ws := ws) (i := 1) (by omega))); omega)) ?_
        rintro _ σ1 ⟨l1, b, rfl⟩
        have hbx : (ba (wd ws 1)).data.toList = wd ws 1 := rfl
        rw [hbx]
        obtain ⟨v', σ', R', c1, c2⟩ := (hJ.up ownInt ownLFunA l1).add1 ownInt ownLFunA (bytes := 8) (x := numR (wd ws 1)) (cs := [.int .i64 (numR (wd ws 1))]) (Rx := []) ⟨rfl, rfl⟩ rfl List.nodup_nil (fun j hj => (by cases hj)) (by omega) (by omega)
        try simp only [q_bind_some, castInt_int, q_castBool, q_castStr, q_castPtr, q_castFn, q_castAgg, q_castTuple, q_uncons, q_isNil, q_sl, q_nils, q_emp, q_ptr, q_nilp, q_fn, q_cond_true, q_cond_false, Bool.not_true, Bool.not_false, decide_true, decide_false, List.cons_append, List.nil_append, c1, one_sl' c2.sl1, hwr]
        exact W.again (i + 1, v', vf, σ') ⟨by show i + 1 ≤ L.length; omega, R', Rf, by show Ji σ0 ((L.take (i + 1)).foldl lstepP ⟨[], []⟩) v' vf σ' R' Rf; rw [hnext, hst]; exact c2⟩ (by simp only; omega) rfl rfl
      · by_cases h0 : 0 < o.funs.length
        · have hst : lstepP o ws = ⟨addLIns o.funs ⟨opNo (ba (wd ws 0)), numR (wd ws 1)⟩, o.mains⟩ := by unfold lstepP; rw [if_neg (fun hc => hf hc.1), if_neg (fun hc => by omega), if_pos ⟨h2, h0⟩]
          have hg : o.funs[o.funs.length - 1]? = some (o.funs[o.funs.length - 1]'(by omega)) := List.getElem?_eq_getElem _
          generalize o.funs[o.funs.length - 1]'(by omega) = f at hg
          have hvf : vlen vf = some o.funs.length := (hJ.g.rep (P := fun _ _ => True) fun _ _ _ _ _ => trivial).vlen
          have hcl := lcode_tot hBo (List.mem_of_getElem? hg)
          obtain ⟨rf, of', vc, k1, k2, k3⟩ := hJ.ins_at hg (by omega)
          have ew : IntKind.wrap .i64 (((o.funs.length : Nat) : Int) - 1) = ((o.funs.length - 1 : Nat) : Int) := by rw [wrap_id (by omega) (by omega)]; omega
          have d0 : decide ((0 : Int) < ((o.funs.length : Nat) : Int)) = true := decide_eq_true (by omega)
          try simp only [q_bind_some, castInt_int, q_castBool, q_castStr, q_castPtr, q_castFn, q_castAgg, q_castTuple, q_uncons, q_isNil, q_sl, q_nils, q_emp, q_ptr, q_nilp, q_fn, q_cond_true, q_cond_false, Bool.not_true, Bool.not_false, decide_true, decide_false, List.cons_append, List.nil_append, hv, hr', hv0', hr0, eref, decide_eq_false hf, efun, hvl, d2, d6, hvf, d0, ew, k1, k2, Bool.cond_self]
          refine B.call (readIns_ends ((hR0.le hJ.le).prots [rf]) (hws'.prots [rf]) h2 (fun x hx => by have := hwx x hx; omega)) ?_
          rintro _ σ1 ⟨l1, rfl⟩
          obtain ⟨vc', σ2, σ3, Rr', Rf', g1, g2, g3, g4⟩ := k3 σ1 ⟨opNo (ba (wd ws 0)), numR (wd ws 1)⟩ l1
          try simp only [q_bind_some, castInt_int, q_castBool, q_castStr, q_castPtr, q_castFn, q_castAgg, q_castTuple, q_uncons, q_isNil, q_sl, q_nils, q_emp, q_ptr, q_nilp, q_fn, q_cond_true, q_cond_false, Bool.not_true, Bool.not_false, decide_true, decide_false, List.cons_append, List.nil_append, g1, one_sl' g2, g3, hwr]
          exact W.again (i + 1, vr, vf, σ3) ⟨by show i + 1 ≤ L.length; omega, Rr', Rf', by show Ji σ0 ((L.take (i + 1)).foldl lstepP ⟨[], []⟩) vr vf σ3 Rr' Rf'; rw [hnext, hst, addLIns_at hg]; exact g4⟩ (by simp only; omega) rfl rfl
        · have hst : lstepP o ws = o := by unfold lstepP; rw [if_neg (fun hc => hf hc.1), if_neg (fun hc => by omega), if_neg (fun hc => h0 hc.2)]
          have hvf : vlen vf = some o.funs.length := (hJ.g.rep (P := fun _ _ => True) fun _ _ _ _ _ => trivial).vlen
          have d0 : decide ((0 : Int) < ((o.funs.length : Nat) : Int)) = false := decide_eq_false (by omega)
          try simp only [q_bind_some, castInt_int, q_castBool, q_castStr, q_castPtr, q_castFn, q_castAgg, q_castTuple, q_uncons, q_isNil, q_sl, q_nils, q_emp, q_ptr, q_nilp, q_fn, q_cond_true, q_cond_false, Bool.not_true, Bool.not_false, decide_true, decide_false, List.cons_append, List.nil_append, hv, hr', hv0', hr0, eref, decide_eq_false hf, efun, hvl, d2, d6, hvf, d0, hwr, Bool.cond_self]
          exact skip hst
    · have d2 : decide (((ws.length : Nat) : Int) = 2) = false := decide_eq_false (by omega)
      by_cases h6 : wd ws 0 = funW ∧ ws.length = 5
      · obtain ⟨hf, h6⟩ := h6
        have d6 : decide (((ws.length : Nat) : Int) = 5) = true := decide_eq_true (by omega)
        have hnr : ¬ wd ws 0 = mainB := by rw [hf]; decide
        have hst : lstepP o ws = ⟨o.funs ++ [⟨ba (cutAt 46 (wd ws 1)).1, ba (cutAt 46 (wd ws 1)).2, argR (wd ws 2), typeNo (ba (wd ws 3)), numR (wd ws 4), []⟩], o.mains⟩ := by unfold lstepP; rw [if_neg (fun hc => h2 hc.2), if_pos ⟨hf, h6⟩]
        obtain ⟨r1, o1, hv1, hr1⟩ := word_at hws' (i := 1) (by omega)
        have hv1' : vidx 1 v 1 = some (r1, o1) := hv1
        obtain ⟨u, hu, hU⟩ := hws'.rest (i := 2) (by rw [List.length_map]; omega)
        have hu' : vslice 1 v (some 2) none = some u := hu
        rw [← List.map_drop] at hU
        have wdd : ∀ j, wd (ws.drop 2) j = wd ws (2 + j) := fun j => by unfold wd; rw [List.getElem?_drop]
        obtain ⟨b, hcut⟩ := cut_runs (σ := σi) (ba (wd ws 1)) 46 (by rw [ba_size]; have := hwx _ (List.mem_of_getElem? (wd_some (ws := ws) (i := 1) (by omega))); omega)
        have hbx : (ba (wd ws 1)).data.toList = wd ws 1 := rfl
        rw [hbx] at hcut
        try simp only [q_bind_some, castInt_int, q_castBool, q_castStr, q_castPtr, q_castFn, q_castAgg, q_castTuple, q_uncons, q_isNil, q_sl, q_nils, q_emp, q_ptr, q_nilp, q_fn, q_cond_true, q_cond_false, Bool.not_true, Bool.not_false, decide_true, decide_false, List.cons_append, List.nil_append, hv, hr', hv0', hr0, eref, decide_eq_false hnr, efun, decide_eq_true hf, hvl, d2, d6, hv1', hr1, hu', unprots0, Bool.cond_self]
        refine B.run hcut ?_
        try simp only [q_bind_some, castInt_int, q_castBool, q_castStr, q_castPtr, q_castFn, q_castAgg, q_castTuple, q_uncons, q_isNil, q_sl, q_nils, q_emp, q_ptr, q_nilp, q_fn, q_cond_true, q_cond_false, Bool.not_true, Bool.not_false, decide_true, decide_false, List.cons_append, List.nil_append, hu']
        refine B.call (readHead_ends (hR0.le hJ.le) hU (by rw [List.length_drop]; omega) (fun x hx => by have := hwx x (List.mem_of_mem_drop hx); omega)) ?_
        rintro _ σ1 ⟨av, Ra, rfl, hO⟩
        have w0' : wd (ws.drop 2) 0 = wd ws 2 := wdd 0
        have w1' : wd (ws.drop 2) 1 = wd ws 3 := wdd 1
        have w2' : wd (ws.drop 2) 2 = wd ws 4 := wdd 2
        rw [w1', w2']
        rw [w0'] at hO
        have ltA := hO.r.lt fun cs x R h => RInt.lt cs x R h
        have lt1 := hJ.f.lt fun cs x R h => ownInt.lt cs x R h
        have lt2 := hJ.g.lt fun cs x R h => ownLFunA.lt cs x R h
        obtain ⟨v', σ', R', c1, c2⟩ := (hJ.up ownInt ownLFunA hO.le).swap.add1 ownLFunA ownInt (bytes := 96) (x := (⟨ba (cutAt 46 (wd ws 1)).1, ba (cutAt 46 (wd ws 1)).2, argR (wd ws 2), typeNo (ba (wd ws 3)), numR (wd ws 4), []⟩ : LinkFun)) (cs := [.str (ba (cutAt 46 (wd ws 1)).1), .str (ba (cutAt 46 (wd ws 1)).2), av, .int .i64 (typeNo (ba (wd ws 3))), .int .i64 (numR (wd ws 4)), .nils]) (Rx := Ra)
          ⟨av, Ra, .nils, [], rfl, hO.r, .nils, .inl rfl, by simp⟩ rfl hO.nd (fun j hj => by have h1 := hO.lo j hj; exact ⟨by have := hJ.le.len; omega, fun hc => by have := lt2 j hc; omega, fun hc => by have := lt1 j hc; omega⟩) (by omega) (by omega)
        try simp only [q_bind_some, castInt_int, q_castBool, q_castStr, q_castPtr, q_castFn, q_castAgg, q_castTuple, q_uncons, q_isNil, q_sl, q_nils, q_emp, q_ptr, q_nilp, q_fn, q_cond_true, q_cond_false, Bool.not_true, Bool.not_false, decide_true, decide_false, List.cons_append, List.nil_append, one_sl' hO.r.isSl, c1, one_sl' c2.sl1, hwr]
        exact W.again (i + 1, vr, v', σ') ⟨by show i + 1 ≤ L.length; omega, Rr, R', by show Ji σ0 ((L.take (i + 1)).foldl lstepP ⟨[], []⟩) vr v' σ' Rr R'; rw [hnext, hst]; exact c2.swap⟩ (by simp only; omega) rfl rfl
      · have hst : lstepP o ws = o := by unfold lstepP; rw [if_neg (fun hc => h2 hc.2), if_neg h6, if_neg (fun hc => h2 hc.1)]
        by_cases hf : wd ws 0 = funW
        · have d6 : decide (((ws.length : Nat) : Int) = 5) = false := decide_eq_false (fun hc => h6 ⟨hf, by omega⟩)
          try simp only [q_bind_some, castInt_int, q_castBool, q_castStr, q_castPtr, q_castFn, q_castAgg, q_castTuple, q_uncons, q_isNil, q_sl, q_nils, q_emp, q_ptr, q_nilp, q_fn, q_cond_true, q_cond_false, Bool.not_true, Bool.not_false, decide_true, decide_false, List.cons_append, List.nil_append, hv, hr', hv0', hr0, eref, efun, decide_eq_true hf, hvl, d2, d6, hwr, Bool.cond_self]
          exact skip hst
        · try simp only [q_bind_some, castInt_int, q_castBool, q_castStr, q_castPtr, q_castFn, q_castAgg, q_castTuple, q_uncons, q_isNil, q_sl, q_nils, q_emp, q_ptr, q_nilp, q_fn, q_cond_true, q_cond_false, Bool.not_true, Bool.not_false, decide_true, decide_false, List.cons_append, List.nil_append, hv, hr', hv0', hr0, eref, efun, decide_eq_false hf, hvl, d2, hwr, Bool.cond_self]
          exact skip hst
  · obtain rfl : i = L.length := by omega
    rw [List.take_length, ← hres] at hJ
    try simp only [q_bind_some, castInt_int, q_castBool, q_castStr, q_castPtr, q_castFn, q_castAgg, q_castTuple, q_uncons, q_isNil, q_sl, q_nils, q_emp, q_ptr, q_nilp, q_fn, q_cond_true, q_cond_false, Bool.not_true, Bool.not_false, decide_true, decide_false, List.cons_append, List.nil_append, impl_LinkRead.A0_x0]
    by_cases h0 : s.data.toList = []
    · try simp only [q_bind_some, castInt_int, q_castBool, q_castStr, q_castPtr, q_castFn, q_castAgg, q_castTuple, q_uncons, q_isNil, q_sl, q_nils, q_emp, q_ptr, q_nilp, q_fn, q_cond_true, q_cond_false, Bool.not_true, Bool.not_false, decide_true, decide_false, List.cons_append, List.nil_append, decide_eq_true ((ba_none s).2 h0)]
      refine W.ret (.inr ⟨fun o ho => ?_, rfl, l0.trans hJ.le⟩)
      rw [h0] at ho
      exact imgL_ne o ho.2
    try simp only [q_bind_some, castInt_int, q_castBool, q_castStr, q_castPtr, q_castFn, q_castAgg, q_castTuple, q_uncons, q_isNil, q_sl, q_nils, q_emp, q_ptr, q_nilp, q_fn, q_cond_true, q_cond_false, Bool.not_true, Bool.not_false, decide_true, decide_false, List.cons_append, List.nil_append, decide_eq_false (fun h => h0 ((ba_none s).1 h))]
    have hO := hJ.obj
    have hBf : ImgB (imgP s.data.toList) 1048576 := hB.mono (by omega)
    refine W.give (implLinkText_gives ((hR0.le hJ.le).ty) ((hR0.le hJ.le).op) (hR0.le hJ.le).nm.tab (img_fit hBf (Nat.le_refl _)) hBf.2.2 hO.rep) fun σ2 l2 => ?_
    by_cases hok : ImgIs (imgP s.data.toList)
    · rw [if_pos hok]
      by_cases he : imgL (imgP s.data.toList) = s.data.toList
      · try simp only [q_bind_some, castInt_int, q_castBool, q_castStr, q_castPtr, q_castFn, q_castAgg, q_castTuple, q_uncons, q_isNil, q_sl, q_nils, q_emp, q_ptr, q_nilp, q_fn, q_cond_true, q_cond_false, Bool.not_true, Bool.not_false, decide_true, decide_false, List.cons_append, List.nil_append, decide_eq_true (show ba (imgL (imgP s.data.toList)) = s by rw [he]; exact (ba_self s).symm)]
        exact W.ret (.inl ⟨_, _, _, _, ⟨hok, he⟩, rfl, (hO.up l2).down l0⟩)
      · try simp only [q_bind_some, castInt_int, q_castBool, q_castStr, q_castPtr, q_castFn, q_castAgg, q_castTuple, q_uncons, q_isNil, q_sl, q_nils, q_emp, q_ptr, q_nilp, q_fn, q_cond_true, q_cond_false, Bool.not_true, Bool.not_false, decide_true, decide_false, List.cons_append, List.nil_append, decide_eq_false (show ¬ ba (imgL (imgP s.data.toList)) = s from fun hc => he (ba_inj.1 (hc.trans (ba_self s))))]
        exact W.ret (.inr ⟨fun o ho => he (by rw [rdI_P ho]; exact ho.2), rfl, (l0.trans hJ.le).trans l2⟩)
    · rw [if_neg hok]
      try simp only [q_bind_some, castInt_int, q_castBool, q_castStr, q_castPtr, q_castFn, q_castAgg, q_castTuple, q_uncons, q_isNil, q_sl, q_nils, q_emp, q_ptr, q_nilp, q_fn, q_cond_true, q_cond_false, Bool.not_true, Bool.not_false, decide_true, decide_false, List.cons_append, List.nil_append, decide_eq_false (show ¬ (⟨#[]⟩ : ByteArray) = s from fun hc => h0 ((ba_none s).1 hc.symm))]
      exact W.ret (.inr ⟨fun o ho => hok (by rw [rdI_P ho]; exact ho.1), rfl, (l0.trans hJ.le).trans l2⟩)
end Go.F

/- ObjRead of the reference. -/
set_option linter.unusedVariables false
set_option linter.unusedSimpArgs false
namespace Go.F
open Go.HM Go.Proofs
theorem opws_at {i : Nat} (hi : i < 10) : opws[i]? = some (opw ((i + 1 : Nat) : Int)) := by
  have := opw_some (n := ((i + 1 : Nat) : Int)) (by omega) (by omega)
  rw [show (((i + 1 : Nat) : Int) - 1).toNat = i by omega] at this
  exact this
/-- An instruction, by the reference. -/
theorem l8Code_gives {σ : Heap} {v : V} {ws : List (List UInt8)} (h : RepS 1 StrRep σ v (ws.map ba)) (h2 : ws.length = 2) (hs : ∀ x, x ∈ ws → x.length ≤ 1048576) : Gives G n_spec_l8Code [v] σ (.agg [.int .i64 (insQ ws).op, .int .i64 (insQ ws).a]) := by
  refine Gives.of (W.to (fun k _ => spec_l8Code.eq k _ _) ?_)
  refine W.loop (S := Nat × Heap) (fun s => s.1 ≤ 10 ∧ Lh σ s.2 ∧ ∀ (j : Nat) y, j < s.1 → opws[j]? = some y → decide (ba (wd ws 0) = y) = false) (fun s => [.v v, .box [.int .i64 0, .int .i64 0], .v (.int .i64 ((s.1 + 1 : Nat) : Int))]) (fun s => s.2) (fun s => 11 - s.1) (fun ⟨i, σi⟩ ⟨hi, hl, hno⟩ => ?_)
    (0, σ) ⟨Nat.zero_le _, Lh.refl _, fun j y hj => absurd hj (Nat.not_lt_zero _)⟩
  simp only at hi hl hno ⊢
  refine W.to (fun k _ => by rw [spec_l8Code.L0_step]) ?_
  refine B.ite (fun hlt => ?_) fun hlt => ?_
  · have hil : i < 10 := by omega
    have ho := opws_at hil
    obtain ⟨r0, o0, hv0, hr0⟩ := word_at (h.le hl) (i := 0) (by omega)
    have hv0' : vidx 1 v 0 = some (r0, o0) := hv0
    try simp only [q_bind_some, castInt_int, q_castBool, q_castStr, q_castPtr, q_castFn, q_castAgg, q_castTuple, q_uncons, q_isNil, q_sl, q_nils, q_emp, q_ptr, q_nilp, q_fn, q_cond_true, q_cond_false, Bool.not_true, Bool.not_false, decide_true, decide_false, List.cons_append, List.nil_append, hv0', hr0]
    refine B.give (l8Word_gives _ _) fun σ1 l1 => ?_
    have l2 := Lh.unprots (rs := [r0]) l1
    by_cases he : ba (wd ws 0) = opw ((i + 1 : Nat) : Int)
    · obtain ⟨r1, o1, hv1, hr1⟩ := word_at (h.le (hl.trans l2)) (i := 1) (by omega)
      have hv1' : vidx 1 v 1 = some (r1, o1) := hv1
      try simp only [q_bind_some, castInt_int, q_castBool, q_castStr, q_castPtr, q_castFn, q_castAgg, q_castTuple, q_uncons, q_isNil, q_sl, q_nils, q_emp, q_ptr, q_nilp, q_fn, q_cond_true, q_cond_false, Bool.not_true, Bool.not_false, decide_true, decide_false, List.cons_append, List.nil_append, decide_eq_true he, hv1', hr1]
      refine B.give (l23Num_gives _ (s := ba (wd ws 1)) (by rw [ba_size]; exact hs _ (List.mem_of_getElem? (wd_some (by omega))))) fun σ2 l3 => ?_
      try simp only [q_bind_some, castInt_int, q_castBool, q_castStr, q_castPtr, q_castFn, q_castAgg, q_castTuple, q_uncons, q_isNil, q_sl, q_nils, q_emp, q_ptr, q_nilp, q_fn, q_cond_true, q_cond_false, Bool.not_true, Bool.not_false, decide_true, decide_false, List.cons_append, List.nil_append, spec_l8Code.A0_ret]
      refine W.ret ⟨?_, (hl.trans l2).trans l3⟩
      have hx : fidx (fun x => decide (ba (wd ws 0) = x)) opws = (i : Int) := fidx_at ho (decide_eq_true he) hno
      have hm : ba (wd ws 0) ∈ opws := by rw [he]; exact List.mem_of_getElem? ho
      unfold insQ
      rw [if_pos hm]
      unfold opNo
      rw [hx]
      rfl
    · try simp only [q_bind_some, castInt_int, q_castBool, q_castStr, q_castPtr, q_castFn, q_castAgg, q_castTuple, q_uncons, q_isNil, q_sl, q_nils, q_emp, q_ptr, q_nilp, q_fn, q_cond_true, q_cond_false, Bool.not_true, Bool.not_false, decide_true, decide_false, List.cons_append, List.nil_append, decide_eq_false he, wrap_next (show i + 1 < 11 by omega) (by omega)]
      refine W.again (i + 1, unprot [r0] σi σ1) ⟨by show i + 1 ≤ 10; omega, hl.trans l2, fun j y hj hy => ?_⟩ (by simp only; omega) rfl rfl
      simp only at hj
      by_cases hij : j = i
      · subst hij
        rw [ho] at hy
        injection hy with hy
        rw [← hy]
        exact decide_eq_false he
      · exact hno j y (by omega) hy
  · obtain rfl : i = 10 := by omega
    try simp only [q_bind_some, castInt_int, q_castBool, q_castStr, q_castPtr, q_castFn, q_castAgg, q_castTuple, q_uncons, q_isNil, q_sl, q_nils, q_emp, q_ptr, q_nilp, q_fn, q_cond_true, q_cond_false, Bool.not_true, Bool.not_false, decide_true, decide_false, List.cons_append, List.nil_append, spec_l8Code.A0_x0]
    refine W.ret ⟨?_, hl⟩
    have hm : ba (wd ws 0) ∉ opws := fun hc => by
      obtain ⟨j, hj⟩ := List.getElem?_of_mem hc
      have := hno j _ (by have := lt_of_get hj; exact this) hj
      simp at this
    unfold insQ
    rw [if_neg hm]
end Go.F

/- LinkRead of the reference. -/
set_option linter.unusedVariables false
set_option linter.unusedSimpArgs false
namespace Go.F
open Go.HM Go.Proofs
/-- A function's line, by the reference. -/
theorem l9Begin_ends {σ : Heap} {v : V} {ws : List (List UInt8)} (h : RepS 1 StrRep σ v (ws.map ba)) (h5 : ws.length = 5) (hs : ∀ x, x ∈ ws → x.length ≤ 1048576) :
    HM.Ends G n_spec_l9Begin [v] σ (fun w σ' => ∃ av R, w = .agg [.str (ba (dotQ (wd ws 1)).1), .str (ba (dotQ (wd ws 1)).2), av, .int .i64 (typeNo (ba (wd ws 3))), .int .i64 (num (wd ws 4)).1, .nils] ∧ Ow σ σ' av (argR (wd ws 2)) R) := by
  refine HM.Ends.mk (W.to (fun k _ => spec_l9Begin.eq k _ _) ?_)
  have hws : ∀ i : Nat, i < 5 → (ba (wd ws i)).size ≤ 1048576 := fun i hi => by rw [ba_size]; exact hs _ (List.mem_of_getElem? (wd_some (by omega)))
  have at' : ∀ {σ' : Heap}, Lh σ σ' → ∀ i : Nat, i < 5 → ∃ r o, vidx 1 v (i : Int) = some (r, o) ∧ rdc σ' r o 1 = some [.str (ba (wd ws i))] := fun hl i hi => word_at (h.le hl) (by omega)
  obtain ⟨r1, o1, hv1, hr1⟩ := at' (Lh.refl _) 1 (by omega)
  have hv1' : vidx 1 v 1 = some (r1, o1) := hv1
  obtain ⟨r3, o3, hv3, hr3⟩ := at' (Lh.refl _) 3 (by omega)
  have hv3' : vidx 1 v 3 = some (r3, o3) := hv3
  have cf := l23Find_runs (σ := σ) (ba (wd ws 1)) 46 (hws 1 (by omega))
  have hb1 : (ba (wd ws 1)).data.toList = wd ws 1 := rfl
  rw [hb1] at cf
  try simp only [q_bind_some, castInt_int, q_castBool, q_castStr, q_castPtr, q_castFn, q_castAgg, q_castTuple, q_uncons, q_isNil, q_sl, q_nils, q_emp, q_ptr, q_nilp, q_fn, q_cond_true, q_cond_false, Bool.not_true, Bool.not_false, decide_true, decide_false, List.cons_append, List.nil_append, hv1', hr1]
  refine W.run cf ?_
  try simp only [q_bind_some, castInt_int, q_castBool, q_castStr, q_castPtr, q_castFn, q_castAgg, q_castTuple, q_uncons, q_isNil, q_sl, q_nils, q_emp, q_ptr, q_nilp, q_fn, q_cond_true, q_cond_false, Bool.not_true, Bool.not_false, decide_true, decide_false, List.cons_append, List.nil_append, hv3', hr3]
  refine W.give (l3Kind_gives (ba (wd ws 3))) fun σ2 l2 => ?_
  have hr1' := l2.rdc hr1
  obtain ⟨r2, o2, hv2, hr2⟩ := at' l2 2 (by omega)
  have hv2' : vidx 1 v 2 = some (r2, o2) := hv2
  have e45 : (⟨#[45]⟩ : ByteArray) = ba [45] := rfl
  have hsz : (ba (wd ws 1)).size = (wd ws 1).length := ba_size _
  have hsz1 := hws 1 (by omega)
  unfold argR
  by_cases hk : 0 ≤ Lib.indexByte (wd ws 1) 46
  · have hd : dotQ (wd ws 1) = ((wd ws 1).take (Lib.indexByte (wd ws 1) 46).toNat, (wd ws 1).drop ((Lib.indexByte (wd ws 1) 46).toNat + 1)) := by unfold dotQ; rw [if_pos hk]
    rcases idx_cases 46 (wd ws 1) with ⟨_, hno⟩ | ⟨k, hkl, hke, _, _⟩
    · omega
    rw [hke] at hd hk ⊢
    rw [Int.toNat_natCast] at hd
    have e1 := sub_to (s := ba (wd ws 1)) (i := k) (by omega)
    have e2 := sub_from (s := ba (wd ws 1)) (i := k + 1) (by omega)
    rw [hb1] at e1 e2
    have ek : IntKind.wrap .i64 ((k : Int) + 1) = ((k + 1 : Nat) : Int) := by rw [wrap_id (by omega) (by omega)]; omega
    try simp only [q_bind_some, castInt_int, q_castBool, q_castStr, q_castPtr, q_castFn, q_castAgg, q_castTuple, q_uncons, q_isNil, q_sl, q_nils, q_emp, q_ptr, q_nilp, q_fn, q_cond_true, q_cond_false, Bool.not_true, Bool.not_false, decide_true, decide_false, List.cons_append, List.nil_append, decide_eq_true hk, hv1', hr1', e1, e2, ek, hv2', hr2]
    by_cases h0 : wd ws 2 = [45]
    · have hd0 : decide (ba (wd ws 2) = (⟨#[45]⟩ : ByteArray)) = true := decide_eq_true (by rw [h0]; rfl)
      obtain ⟨r4, o4, hv4, hr4⟩ := at' l2 4 (by omega)
      have hv4' : vidx 1 v 4 = some (r4, o4) := hv4
      try simp only [q_bind_some, castInt_int, q_castBool, q_castStr, q_castPtr, q_castFn, q_castAgg, q_castTuple, q_uncons, q_isNil, q_sl, q_nils, q_emp, q_ptr, q_nilp, q_fn, q_cond_true, q_cond_false, Bool.not_true, Bool.not_false, decide_true, decide_false, List.cons_append, List.nil_append, hd0, hv4', hr4]
      refine W.give (l23Num_gives _ (s := ba (wd ws 4)) (hws 4 (by omega))) fun σ3 l3 => ?_
      try simp only [q_bind_some, castInt_int, q_castBool, q_castStr, q_castPtr, q_castFn, q_castAgg, q_castTuple, q_uncons, q_isNil, q_sl, q_nils, q_emp, q_ptr, q_nilp, q_fn, q_cond_true, q_cond_false, Bool.not_true, Bool.not_false, decide_true, decide_false, List.cons_append, List.nil_append]
      rw [if_pos h0, hd]
      exact W.ret ⟨_, _, rfl, (Ow.nils σ3).down (l2.trans l3)⟩
    · have hd0 : decide (ba (wd ws 2) = (⟨#[45]⟩ : ByteArray)) = false := decide_eq_false (fun hc => h0 (ba_inj.1 (hc.trans e45)))
      try simp only [q_bind_some, castInt_int, q_castBool, q_castStr, q_castPtr, q_castFn, q_castAgg, q_castTuple, q_uncons, q_isNil, q_sl, q_nils, q_emp, q_ptr, q_nilp, q_fn, q_cond_true, q_cond_false, Bool.not_true, Bool.not_false, decide_true, decide_false, List.cons_append, List.nil_append, hd0]
      refine W.call (l3Kinds_ends (ba (wd ws 2)) (hws 2 (by omega))) ?_
      rintro av σ3 ⟨R, hO⟩
      obtain ⟨r4, o4, hv4, hr4⟩ := at' (l2.trans hO.le) 4 (by omega)
      have hv4' : vidx 1 v 4 = some (r4, o4) := hv4
      try simp only [q_bind_some, castInt_int, q_castBool, q_castStr, q_castPtr, q_castFn, q_castAgg, q_castTuple, q_uncons, q_isNil, q_sl, q_nils, q_emp, q_ptr, q_nilp, q_fn, q_cond_true, q_cond_false, Bool.not_true, Bool.not_false, decide_true, decide_false, List.cons_append, List.nil_append, one_sl' hO.r.isSl, hv4', hr4]
      refine W.give (l23Num_gives _ (s := ba (wd ws 4)) (hws 4 (by omega))) fun σ4 l4 => ?_
      try simp only [q_bind_some, castInt_int, q_castBool, q_castStr, q_castPtr, q_castFn, q_castAgg, q_castTuple, q_uncons, q_isNil, q_sl, q_nils, q_emp, q_ptr, q_nilp, q_fn, q_cond_true, q_cond_false, Bool.not_true, Bool.not_false, decide_true, decide_false, List.cons_append, List.nil_append]
      rw [if_neg h0, hd]
      exact W.ret ⟨av, R, rfl, (hO.up l4).down l2⟩
  · have hd : dotQ (wd ws 1) = ([], []) := by unfold dotQ; rw [if_neg hk]
    try simp only [q_bind_some, castInt_int, q_castBool, q_castStr, q_castPtr, q_castFn, q_castAgg, q_castTuple, q_uncons, q_isNil, q_sl, q_nils, q_emp, q_ptr, q_nilp, q_fn, q_cond_true, q_cond_false, Bool.not_true, Bool.not_false, decide_true, decide_false, List.cons_append, List.nil_append, decide_eq_false hk, hv2', hr2]
    by_cases h0 : wd ws 2 = [45]
    · have hd0 : decide (ba (wd ws 2) = (⟨#[45]⟩ : ByteArray)) = true := decide_eq_true (by rw [h0]; rfl)
      obtain ⟨r4, o4, hv4, hr4⟩ := at' l2 4 (by omega)
      have hv4' : vidx 1 v 4 = some (r4, o4) := hv4
      try simp only [q_bind_some, castInt_int, q_castBool, q_castStr, q_castPtr, q_castFn, q_castAgg, q_castTuple, q_uncons, q_isNil, q_sl, q_nils, q_emp, q_ptr, q_nilp, q_fn, q_cond_true, q_cond_false, Bool.not_true, Bool.not_false, decide_true, decide_false, List.cons_append, List.nil_append, hd0, hv4', hr4]
      refine W.give (l23Num_gives _ (s := ba (wd ws 4)) (hws 4 (by omega))) fun σ3 l3 => ?_
      try simp only [q_bind_some, castInt_int, q_castBool, q_castStr, q_castPtr, q_castFn, q_castAgg, q_castTuple, q_uncons, q_isNil, q_sl, q_nils, q_emp, q_ptr, q_nilp, q_fn, q_cond_true, q_cond_false, Bool.not_true, Bool.not_false, decide_true, decide_false, List.cons_append, List.nil_append]
      rw [if_pos h0, hd]
      exact W.ret ⟨_, _, rfl, (Ow.nils σ3).down (l2.trans l3)⟩
    · have hd0 : decide (ba (wd ws 2) = (⟨#[45]⟩ : ByteArray)) = false := decide_eq_false (fun hc => h0 (ba_inj.1 (hc.trans e45)))
      try simp only [q_bind_some, castInt_int, q_castBool, q_castStr, q_castPtr, q_castFn, q_castAgg, q_castTuple, q_uncons, q_isNil, q_sl, q_nils, q_emp, q_ptr, q_nilp, q_fn, q_cond_true, q_cond_false, Bool.not_true, Bool.not_false, decide_true, decide_false, List.cons_append, List.nil_append, hd0]
      refine W.call (l3Kinds_ends (ba (wd ws 2)) (hws 2 (by omega))) ?_
      rintro av σ3 ⟨R, hO⟩
      obtain ⟨r4, o4, hv4, hr4⟩ := at' (l2.trans hO.le) 4 (by omega)
      have hv4' : vidx 1 v 4 = some (r4, o4) := hv4
      try simp only [q_bind_some, castInt_int, q_castBool, q_castStr, q_castPtr, q_castFn, q_castAgg, q_castTuple, q_uncons, q_isNil, q_sl, q_nils, q_emp, q_ptr, q_nilp, q_fn, q_cond_true, q_cond_false, Bool.not_true, Bool.not_false, decide_true, decide_false, List.cons_append, List.nil_append, one_sl' hO.r.isSl, hv4', hr4]
      refine W.give (l23Num_gives _ (s := ba (wd ws 4)) (hws 4 (by omega))) fun σ4 l4 => ?_
      try simp only [q_bind_some, castInt_int, q_castBool, q_castStr, q_castPtr, q_castFn, q_castAgg, q_castTuple, q_uncons, q_isNil, q_sl, q_nils, q_emp, q_ptr, q_nilp, q_fn, q_cond_true, q_cond_false, Bool.not_true, Bool.not_false, decide_true, decide_false, List.cons_append, List.nil_append]
      rw [if_neg h0, hd]
      exact W.ret ⟨av, R, rfl, (hO.up l4).down l2⟩
set_option maxHeartbeats 1000000 in
theorem specLinkRead_ends {σ : Heap} (s : ByteArray) (hs : s.size ≤ 1048576) : HM.Ends G n_spec_LinkRead [.str s] σ (RdIP σ s.data.toList) := by
  refine HM.Ends.mk (W.to (fun k _ => spec_LinkRead.eq k _ _) ?_)
  have hsz := ba_list s
  refine W.ite (fun hbig => W.ret (.inr ⟨fun o ho => ?_, rfl, Lh.refl _⟩)) fun hsm => ?_
  · have := imgL_len ho.1
    rw [ho.2] at this
    omega
  have c0 := l23Cut_ends (σ := σ) s 10 hs
  refine W.call c0 ?_
  rintro v0 σ0 ⟨hG, l0⟩
  have hn := split_len 10 s.data.toList
  have hel := split_le 10 s.data.toList
  have htot := split_tot 10 s.data.toList
  have hB := imgQ_B s.data.toList
  have hQ : imgQ s.data.toList = (((splitL 10 s.data.toList).take ((splitL 10 s.data.toList).length - 1)).drop 1).foldl (fun o l => lstepQ o (wordsQ l)) ⟨[], []⟩ := rfl
  have hL : RepS 1 StrRep σ0 v0 ((splitL 10 s.data.toList).map ba) := hG.rep fun _ => rfl
  generalize splitL 10 s.data.toList = ls at hL hn hel htot hQ
  replace hn : ls.length ≤ 200001 := by omega
  replace hel : ∀ x, x ∈ ls → x.length ≤ 200000 := fun x hx => by have := hel x hx; omega
  replace htot : totS List.length ls ≤ 200000 := by omega
  have hvl0 := hL.vlen
  rw [List.length_map] at hvl0
  have hBi : ∀ i, ImgB (((ls.take i).drop 1).foldl (fun o l => lstepQ o (wordsQ l)) ⟨[], []⟩) 700000 := fun i => by
    refine (ifold_B lstepQl_B ((ls.take i).drop 1) _ _ izero_B).mono ?_
    have h1 := take_tot List.length ls i
    have h2 := drop_tot List.length (ls.take i) 1
    have h3 : ((ls.take i).drop 1).length ≤ ls.length := by rw [List.length_drop, List.length_take]; omega
    omega
  refine W.loop (S := Nat × V × V × Heap) (fun s => 1 ≤ s.1 ∧ (s.1 ≤ ls.length - 1 ∨ s.1 = 1) ∧ ∃ Rr Rf, Ji σ0 (((ls.take s.1).drop 1).foldl (fun o l => lstepQ o (wordsQ l)) ⟨[], []⟩) s.2.1 s.2.2.1 s.2.2.2 Rr Rf)
    (fun x => [.v (.str s), .box [.nils, .nils], .box [x.2.2.1, x.2.1], .v v0, .v (.int .i64 (x.1 : Int))]) (fun x => x.2.2.2) (fun x => ls.length - x.1) (fun ⟨i, vr, vf, σi⟩ ⟨hi1, hi, Rr, Rf, hJ⟩ => ?_)
    (1, .nils, .nils, σ0) ⟨Nat.le_refl _, .inr rfl, [], [], by
      have : (ls.take 1).drop 1 = [] := by rw [List.drop_eq_nil_of_le]; rw [List.length_take]; omega
      show Ji σ0 (((ls.take 1).drop 1).foldl (fun o l => lstepQ o (wordsQ l)) ⟨[], []⟩) .nils .nils σ0 [] []
      rw [this]
      exact J2.start σ0⟩
  simp only at hi1 hi hJ ⊢
  refine W.to (fun k _ => by rw [spec_LinkRead.L0_step]) ?_
  have hwr : IntKind.wrap .i64 ((i : Int) + 1) = ((i + 1 : Nat) : Int) := by rw [wrap_id (by omega) (by omega)]; omega
  try simp only [q_bind_some, castInt_int, q_castBool, q_castStr, q_castPtr, q_castFn, q_castAgg, q_castTuple, q_uncons, q_isNil, q_sl, q_nils, q_emp, q_ptr, q_nilp, q_fn, q_cond_true, q_cond_false, Bool.not_true, Bool.not_false, decide_true, decide_false, List.cons_append, List.nil_append, hvl0, hwr]
  refine B.ite (fun hlt => ?_) fun hlt => ?_
  · have hil : i < ls.length := by omega
    have hx : ls[i]? = some ls[i] := List.getElem?_eq_getElem hil
    have hxl := hel ls[i] (List.getElem_mem hil)
    generalize ls[i] = x at hx hxl
    have hnext : ((ls.take (i + 1)).drop 1).foldl (fun o l => lstepQ o (wordsQ l)) ⟨[], []⟩ = lstepQ (((ls.take i).drop 1).foldl (fun o l => lstepQ o (wordsQ l)) ⟨[], []⟩) (wordsQ x) := by
      have : (ls.take (i + 1)).drop 1 = (ls.take i).drop 1 ++ [x] := by
        rw [take_next' hx, List.drop_append_of_le_length (by rw [List.length_take]; omega)]
      rw [this, List.foldl_append]
      rfl
    have hBo := hBi i
    generalize ((ls.take i).drop 1).foldl (fun o l => lstepQ o (wordsQ l)) ⟨[], []⟩ = o at hJ hnext hBo
    obtain ⟨b1, b2⟩ := img_lens hBo
    obtain ⟨r, o', hv, cs, hr, hP⟩ := hL.at' (i := i) (x := ba x) (by rw [List.getElem?_map, hx]; rfl)
    unfold StrRep at hP
    subst hP
    have hr' := hJ.le.rdc hr
    have cw := l23Words_ends (σ := σi) (ba x) (by rw [ba_size]; omega)
    have hbx : (ba x).data.toList = x := rfl
    rw [hbx] at cw
    have hwx : ∀ y, y ∈ wordsQ x → y.length ≤ 1048576 := fun y hy => by
      have := split_le 32 x y (List.mem_filter.1 hy).1
      omega
    generalize wordsQ x = ws at cw hwx hnext
    try simp only [q_bind_some, castInt_int, q_castBool, q_castStr, q_castPtr, q_castFn, q_castAgg, q_castTuple, q_uncons, q_isNil, q_sl, q_nils, q_emp, q_ptr, q_nilp, q_fn, q_cond_true, q_cond_false, Bool.not_true, Bool.not_false, decide_true, decide_false, List.cons_append, List.nil_append, hv, hr']
    refine B.call cw ?_
    rintro v σ1 ⟨l1, hws'⟩
    have hJ1 := hJ.up ownInt ownLFunA l1
    have hvl := hws'.vlen
    rw [List.length_map] at hvl
    have hvf : vlen vf = some o.funs.length := (hJ.g.rep (P := fun _ _ => True) fun _ _ _ _ _ => trivial).vlen
    have eref : decide (ba (wd ws 0) = (⟨#[109, 97, 105, 110]⟩ : ByteArray)) = decide (wd ws 0 = mainB) := dec_ba _ _
    have efun : decide (ba (wd ws 0) = (⟨#[102, 117, 110]⟩ : ByteArray)) = decide (wd ws 0 = funW) := dec_ba _ _
    have step : ∀ {vr' vf' : V} {σ' : Heap} {Rr' Rf' : List Nat}, Ji σ0 (lstepQ o ws) vr' vf' σ' Rr' Rf' → W (ι := Nat × Unit) (RdIP σ s.data.toList)
      (Nxt (fun _ => False) spec_LinkRead.L0 (fun k (_ : Unit) => spec_LinkRead.A0 k) (fun s => 1 ≤ s.1 ∧ (s.1 ≤ ls.length - 1 ∨ s.1 = 1) ∧ ∃ Rr Rf, Ji σ0 (((ls.take s.1).drop 1).foldl (fun o l => lstepQ o (wordsQ l)) ⟨[], []⟩) s.2.1 s.2.2.1 s.2.2.2 Rr Rf)
      (fun x : Nat × V × V × Heap => [.v (.str s), .box [.nils, .nils], .box [x.2.2.1, x.2.1], .v v0, .v (.int .i64 (x.1 : Int))]) (fun x => x.2.2.2) (fun x => ls.length - x.1) (ls.length - i))
      (fun k jm => (spec_LinkRead.L0 k jm.1 [.v (.str s), .box [.nils, .nils], .box [vf', vr'], .v v0, .v (.int .i64 ((i + 1 : Nat) : Int))] σ').bind (spec_LinkRead.A0 k)) := fun {vr' vf' σ' Rr' Rf'} h =>
      W.again (i + 1, vr', vf', σ') ⟨by show 1 ≤ i + 1; omega, .inl (by show i + 1 ≤ ls.length - 1; omega), Rr', Rf', by show Ji σ0 (((ls.take (i + 1)).drop 1).foldl (fun o l => lstepQ o (wordsQ l)) ⟨[], []⟩) vr' vf' σ' Rr' Rf'; rw [hnext]; exact h⟩ (by simp only; omega) rfl rfl
    have d0 : IntKind.wrap .i64 (((o.funs.length : Nat) : Int) - 1) = ((o.funs.length : Nat) : Int) - 1 := wrap_id (by omega) (by omega)
    by_cases h2 : ws.length = 2
    · have d2 : decide (((ws.length : Nat) : Int) = 2) = true := decide_eq_true (by omega)
      have d6 : decide (((ws.length : Nat) : Int) = 5) = false := decide_eq_false (by omega)
      obtain ⟨r0, o0, hv0, hr0⟩ := word_at hws' (i := 0) (by omega)
      have hv0' : vidx 1 v 0 = some (r0, o0) := hv0
      obtain ⟨r1, o1, hv1, hr1⟩ := word_at hws' (i := 1) (by omega)
      have hv1' : vidx 1 v 1 = some (r1, o1) := hv1
      by_cases hf : wd ws 0 = mainB
      · have hst : lstepQ o ws = ⟨o.funs, o.mains ++ [(num (wd ws 1)).1]⟩ := by unfold lstepQ; rw [if_neg (fun hc => by omega), if_pos ⟨h2, hf⟩]
        try simp only [q_bind_some, castInt_int, q_castBool, q_castStr, q_castPtr, q_castFn, q_castAgg, q_castTuple, q_uncons, q_isNil, q_sl, q_nils, q_emp, q_ptr, q_nilp, q_fn, q_cond_true, q_cond_false, Bool.not_true, Bool.not_false, decide_true, decide_false, List.cons_append, List.nil_append, hvf, hvl, d2, d6, hv0', hr0, eref, decide_eq_true hf, hv1', hr1]
        refine B.give (l23Num_gives _ (s := ba (wd ws 1)) (by rw [ba_size]; exact hwx _ (List.mem_of_getElem? (wd_some (ws := ws) (i := 1) (by omega))))) fun σ2 l2 => ?_
        have hb1 : (ba (wd ws 1)).data.toList = wd ws 1 := rfl
        rw [hb1]
        obtain ⟨v', σ', R', c1, c2⟩ := (hJ1.up ownInt ownLFunA l2).add1 ownInt ownLFunA (bytes := 8) (x := (num (wd ws 1)).1) (cs := [.int .i64 (num (wd ws 1)).1]) (Rx := []) ⟨rfl, rfl⟩ rfl List.nodup_nil (fun j hj => (by cases hj)) (by omega) (by omega)
        try simp only [q_bind_some, castInt_int, q_castBool, q_castStr, q_castPtr, q_castFn, q_castAgg, q_castTuple, q_uncons, q_isNil, q_sl, q_nils, q_emp, q_ptr, q_nilp, q_fn, q_cond_true, q_cond_false, Bool.not_true, Bool.not_false, decide_true, decide_false, List.cons_append, List.nil_append, c1, one_sl' c2.sl1]
        exact step (vr' := v') (vf' := vf) (Rr' := R') (Rf' := Rf) (by rw [hst]; exact c2)
      · by_cases h0 : 0 < o.funs.length
        · have hst : lstepQ o ws = ⟨addLIns o.funs (insQ ws), o.mains⟩ := by unfold lstepQ; rw [if_neg (fun hc => by omega), if_neg (fun hc => hf hc.2), if_pos ⟨h2, h0⟩]
          have hg : o.funs[o.funs.length - 1]? = some (o.funs[o.funs.length - 1]'(by omega)) := List.getElem?_eq_getElem _
          generalize o.funs[o.funs.length - 1]'(by omega) = f at hg
          have hcl := lcode_tot hBo (List.mem_of_getElem? hg)
          obtain ⟨rf, of', vc, k1, k2, k3⟩ := Ji.ins_at (o := o) hJ1 hg (by omega)
          have ew : IntKind.wrap .i64 (((o.funs.length : Nat) : Int) - 1) = ((o.funs.length - 1 : Nat) : Int) := by rw [d0]; omega
          have dz : decide ((0 : Int) ≤ ((o.funs.length - 1 : Nat) : Int)) = true := decide_eq_true (by omega)
          try simp only [q_bind_some, castInt_int, q_castBool, q_castStr, q_castPtr, q_castFn, q_castAgg, q_castTuple, q_uncons, q_isNil, q_sl, q_nils, q_emp, q_ptr, q_nilp, q_fn, q_cond_true, q_cond_false, Bool.not_true, Bool.not_false, decide_true, decide_false, List.cons_append, List.nil_append, hvf, hvl, d2, d6, hv0', hr0, eref, decide_eq_false hf, ew, dz, k1, k2]
          refine B.give (l8Code_gives (hws'.prots [rf]) h2 hwx) fun σ2 l2 => ?_
          obtain ⟨vc', σ3, σ4, Rr', Rf', g1, g2, g3, g4⟩ := k3 σ2 (insQ ws) l2
          try simp only [q_bind_some, castInt_int, q_castBool, q_castStr, q_castPtr, q_castFn, q_castAgg, q_castTuple, q_uncons, q_isNil, q_sl, q_nils, q_emp, q_ptr, q_nilp, q_fn, q_cond_true, q_cond_false, Bool.not_true, Bool.not_false, decide_true, decide_false, List.cons_append, List.nil_append, g1, k1, one_sl' g2, g3]
          exact step (Rr' := Rr') (Rf' := Rf') (by rw [hst, addLIns_at hg]; exact g4)
        · have hst : lstepQ o ws = o := by unfold lstepQ; rw [if_neg (fun hc => by omega), if_neg (fun hc => hf hc.2), if_neg (fun hc => h0 hc.2)]
          have dz : decide ((0 : Int) ≤ ((o.funs.length : Nat) : Int) - 1) = false := decide_eq_false (by omega)
          try simp only [q_bind_some, castInt_int, q_castBool, q_castStr, q_castPtr, q_castFn, q_castAgg, q_castTuple, q_uncons, q_isNil, q_sl, q_nils, q_emp, q_ptr, q_nilp, q_fn, q_cond_true, q_cond_false, Bool.not_true, Bool.not_false, decide_true, decide_false, List.cons_append, List.nil_append, hvf, hvl, d2, d6, hv0', hr0, eref, decide_eq_false hf, d0, dz]
          exact step (by rw [hst]; exact hJ1)
    · have d2 : decide (((ws.length : Nat) : Int) = 2) = false := decide_eq_false (by omega)
      by_cases h6 : ws.length = 5
      · have d6 : decide (((ws.length : Nat) : Int) = 5) = true := decide_eq_true (by omega)
        obtain ⟨r0, o0, hv0, hr0⟩ := word_at hws' (i := 0) (by omega)
        have hv0' : vidx 1 v 0 = some (r0, o0) := hv0
        by_cases hf : wd ws 0 = funW
        · have hst : lstepQ o ws = ⟨o.funs ++ [⟨ba (dotQ (wd ws 1)).1, ba (dotQ (wd ws 1)).2, argR (wd ws 2), typeNo (ba (wd ws 3)), (num (wd ws 4)).1, []⟩], o.mains⟩ := by unfold lstepQ; rw [if_pos ⟨h6, hf⟩]
          try simp only [q_bind_some, castInt_int, q_castBool, q_castStr, q_castPtr, q_castFn, q_castAgg, q_castTuple, q_uncons, q_isNil, q_sl, q_nils, q_emp, q_ptr, q_nilp, q_fn, q_cond_true, q_cond_false, Bool.not_true, Bool.not_false, decide_true, decide_false, List.cons_append, List.nil_append, hvf, hvl, d2, d6, hv0', hr0, efun, decide_eq_true hf]
          refine B.call (l9Begin_ends hws' h6 hwx) ?_
          rintro _ σ2 ⟨av, Ra, rfl, hO⟩
          have ltA := hO.r.lt fun cs x R h => RInt.lt cs x R h
          have lt1 := hJ1.f.lt fun cs x R h => ownInt.lt cs x R h
          have lt2 := hJ1.g.lt fun cs x R h => ownLFunA.lt cs x R h
          obtain ⟨v', σ', R', c1, c2⟩ := (hJ1.up ownInt ownLFunA hO.le).swap.add1 ownLFunA ownInt (bytes := 96) (x := (⟨ba (dotQ (wd ws 1)).1, ba (dotQ (wd ws 1)).2, argR (wd ws 2), typeNo (ba (wd ws 3)), (num (wd ws 4)).1, []⟩ : LinkFun)) (cs := [.str (ba (dotQ (wd ws 1)).1), .str (ba (dotQ (wd ws 1)).2), av, .int .i64 (typeNo (ba (wd ws 3))), .int .i64 (num (wd ws 4)).1, .nils]) (Rx := Ra)
            ⟨av, Ra, .nils, [], rfl, hO.r, .nils, .inl rfl, by simp⟩ rfl hO.nd (fun j hj => by have h1 := hO.lo j hj; exact ⟨by have := hJ1.le.len; omega, fun hc => by have := lt2 j hc; omega, fun hc => by have := lt1 j hc; omega⟩) (by omega) (by omega)
          try simp only [q_bind_some, castInt_int, q_castBool, q_castStr, q_castPtr, q_castFn, q_castAgg, q_castTuple, q_uncons, q_isNil, q_sl, q_nils, q_emp, q_ptr, q_nilp, q_fn, q_cond_true, q_cond_false, Bool.not_true, Bool.not_false, decide_true, decide_false, List.cons_append, List.nil_append, c1, one_sl' c2.sl1]
          exact step (Rr' := Rr) (Rf' := R') (by rw [hst]; exact c2.swap)
        · have hst : lstepQ o ws = o := by unfold lstepQ; rw [if_neg (fun hc => hf hc.2), if_neg (fun hc => h2 hc.1), if_neg (fun hc => h2 hc.1)]
          try simp only [q_bind_some, castInt_int, q_castBool, q_castStr, q_castPtr, q_castFn, q_castAgg, q_castTuple, q_uncons, q_isNil, q_sl, q_nils, q_emp, q_ptr, q_nilp, q_fn, q_cond_true, q_cond_false, Bool.not_true, Bool.not_false, decide_true, decide_false, List.cons_append, List.nil_append, hvf, hvl, d2, d6, hv0', hr0, efun, decide_eq_false hf]
          exact step (by rw [hst]; exact hJ1)
      · have d6 : decide (((ws.length : Nat) : Int) = 5) = false := decide_eq_false (by omega)
        have hst : lstepQ o ws = o := by unfold lstepQ; rw [if_neg (fun hc => h6 hc.1), if_neg (fun hc => h2 hc.1), if_neg (fun hc => h2 hc.1)]
        try simp only [q_bind_some, castInt_int, q_castBool, q_castStr, q_castPtr, q_castFn, q_castAgg, q_castTuple, q_uncons, q_isNil, q_sl, q_nils, q_emp, q_ptr, q_nilp, q_fn, q_cond_true, q_cond_false, Bool.not_true, Bool.not_false, decide_true, decide_false, List.cons_append, List.nil_append, hvf, hvl, d2, d6]
        exact step (by rw [hst]; exact hJ1)
  · try simp only [q_bind_some, castInt_int, q_castBool, q_castStr, q_castPtr, q_castFn, q_castAgg, q_castTuple, q_uncons, q_isNil, q_sl, q_nils, q_emp, q_ptr, q_nilp, q_fn, q_cond_true, q_cond_false, Bool.not_true, Bool.not_false, decide_true, decide_false, List.cons_append, List.nil_append, spec_LinkRead.A0_x0]
    have e : (ls.take i).drop 1 = (ls.take (ls.length - 1)).drop 1 := by
      by_cases h1 : i = ls.length - 1
      · rw [h1]
      · have hi1' : i = 1 := by omega
        subst hi1'
        have a : (ls.take 1).drop 1 = [] := by rw [List.drop_eq_nil_of_le]; rw [List.length_take]; omega
        have b : (ls.take (ls.length - 1)).drop 1 = [] := by rw [List.drop_eq_nil_of_le]; rw [List.length_take]; omega
        rw [a, b]
    rw [e, ← hQ] at hJ
    have hO := hJ.obj
    have hBf : ImgB (imgQ s.data.toList) 1048576 := hB.mono (by omega)
    have hFit := img_fit hBf (Nat.le_refl _)
    refine W.give (specL9Ok_gives hFit hBf.2.2 hO.rep) fun σ2 l2 => ?_
    by_cases hok : ImgIs (imgQ s.data.toList)
    rotate_left
    · try simp only [q_bind_some, castInt_int, q_castBool, q_castStr, q_castPtr, q_castFn, q_castAgg, q_castTuple, q_uncons, q_isNil, q_sl, q_nils, q_emp, q_ptr, q_nilp, q_fn, q_cond_true, q_cond_false, Bool.not_true, Bool.not_false, decide_true, decide_false, List.cons_append, List.nil_append, decide_eq_false hok]
      exact W.ret (.inr ⟨fun o ho => hok (by rw [rdI_Q ho]; exact ho.1), rfl, (l0.trans hO.le).trans l2⟩)
    try simp only [q_bind_some, castInt_int, q_castBool, q_castStr, q_castPtr, q_castFn, q_castAgg, q_castTuple, q_uncons, q_isNil, q_sl, q_nils, q_emp, q_ptr, q_nilp, q_fn, q_cond_true, q_cond_false, Bool.not_true, Bool.not_false, decide_true, decide_false, List.cons_append, List.nil_append, decide_eq_true hok]
    refine W.give (specLinkText_gives hFit hBf.2.2 (hO.up l2).rep) fun σ3 l3 => ?_
    rw [if_pos hok]
    by_cases he : imgL (imgQ s.data.toList) = s.data.toList
    · try simp only [q_bind_some, castInt_int, q_castBool, q_castStr, q_castPtr, q_castFn, q_castAgg, q_castTuple, q_uncons, q_isNil, q_sl, q_nils, q_emp, q_ptr, q_nilp, q_fn, q_cond_true, q_cond_false, Bool.not_true, Bool.not_false, decide_true, decide_false, List.cons_append, List.nil_append, decide_eq_true (show ba (imgL (imgQ s.data.toList)) = s by rw [he]; exact (ba_self s).symm)]
      exact W.ret (.inl ⟨_, _, _, _, ⟨hok, he⟩, rfl, ((hO.up l2).up l3).down l0⟩)
    · try simp only [q_bind_some, castInt_int, q_castBool, q_castStr, q_castPtr, q_castFn, q_castAgg, q_castTuple, q_uncons, q_isNil, q_sl, q_nils, q_emp, q_ptr, q_nilp, q_fn, q_cond_true, q_cond_false, Bool.not_true, Bool.not_false, decide_true, decide_false, List.cons_append, List.nil_append, decide_eq_false (show ¬ ba (imgL (imgQ s.data.toList)) = s from fun hc => he (ba_inj.1 (hc.trans (ba_self s))))]
      exact W.ret (.inr ⟨fun o ho => he (by rw [rdI_Q ho]; exact ho.2), rfl, ((l0.trans hO.le).trans l2).trans l3⟩)
end Go.F

/- What the law on LinkRead computes. -/
set_option linter.unusedVariables false
set_option linter.unusedSimpArgs false
namespace Go.F
open Go.HM Go.Proofs
theorem rdI_one {t : List UInt8} {a b : LinkImage} (h : RdI t a) (g : RdI t b) : a = b := (rdI_P h).symm.trans (rdI_P g)
theorem readV_of {σ : Heap} (hv : VarsFnExactLinkRead σ) : ReadV σ := ⟨hv.v5, hv.v6, hv.v7, ⟨hv.v2, hv.v4, hv.v3⟩⟩
/-- What was handed back once is what is handed back again, and they are one. -/
theorem FnExactLinkRead_law {σ : Heap} (hv : VarsFnExactLinkRead σ) {y0 : ByteArray} (f0 : fitT y0) : ∃ σ', Runs G n_laws_FnExactLinkRead [.str y0] σ (.bool true) σ' := by
  refine Ends.true (Ends.mk ?_)
  refine W.to (fun k _ => laws_FnExactLinkRead.eq k _ _) ?_
  refine W.ite (fun _ => W.ret rfl) fun hs => ?_
  have hsz : y0.size ≤ 1048576 := by omega
  have hR := readV_of hv
  refine W.call (specLinkRead_ends y0 hsz) ?_
  rintro w1 σ1 H1
  have shape : ∃ (o : LinkImage) (b : Bool), o.total ≤ 1048576 ∧ o.Fit ∧ ∀ {σ2 σ3 : Heap} {w : V}, RdIP σ2 y0.data.toList w σ3 → ∃ vr vf R, w = .tuple [.agg [vf, vr], .bool b] ∧ ImgW σ2 o vr vf σ3 R := by
    rcases H1 with ⟨o, vr, vf, R, hO, _, _⟩ | ⟨hno, _, _⟩
    · have hB : ImgB (imgP y0.data.toList) 700000 := (imgP_B y0.data.toList).mono (by have := imgL_len hO.1; rw [hO.2] at this; omega)
      rw [rdI_P hO] at hB
      refine ⟨o, true, by have := hB.2.2; omega, img_fit hB (by omega), fun {σ2 σ3 w} H => ?_⟩
      rcases H with ⟨o', vr', vf', R', hO', rfl, hW⟩ | ⟨hno, _, _⟩
      · rw [rdI_one hO hO']
        exact ⟨vr', vf', R', rfl, hW⟩
      · exact absurd hO (hno o)
    · refine ⟨⟨[], []⟩, false, by decide, img_fit (n := 0) izero_B (by omega), fun {σ2 σ3 w} H => ?_⟩
      rcases H with ⟨o', vr', vf', R', hO', rfl, hW⟩ | ⟨_, rfl, hl⟩
      · exact absurd hO' (hno o')
      · exact ⟨.nils, .nils, [], rfl, (ImgW.none σ3).down hl⟩
  obtain ⟨o, b, ht, hF, again⟩ := shape
  obtain ⟨vr1, vf1, R1, rfl, W1⟩ := again H1
  have l1 := W1.le
  have eqO : ∀ {σ' : Heap} {xs ys : List V}, LinkImage.Rep σ' xs o → LinkImage.Rep σ' ys o → Runs G n_laws_eqLinkImage [.agg xs, .agg ys] σ' (.bool true) σ' := fun h h' => by
    obtain ⟨b, c, hb⟩ := eqLinkImage_runs o o hF h h'
    obtain rfl := hb.2 rfl
    exact c
  have bb : (b == b) = true := by cases b <;> rfl
  try simp only [q_bind_some, castInt_int, q_castBool, q_castStr, q_castPtr, q_castFn, q_castAgg, q_castTuple, q_uncons, q_isNil, q_sl, q_nils, q_emp, q_ptr, q_nilp, q_fn, q_cond_true, q_cond_false, Bool.not_true, Bool.not_false, decide_true, decide_false, List.cons_append, List.nil_append]
  refine W.call (implLinkRead_ends (hR.le l1) y0 hsz) ?_
  rintro w2 σ2 H2
  obtain ⟨vr2, vf2, R2, rfl, W2⟩ := again H2
  try simp only [q_bind_some, castInt_int, q_castBool, q_castStr, q_castPtr, q_castFn, q_castAgg, q_castTuple, q_uncons, q_isNil, q_sl, q_nils, q_emp, q_ptr, q_nilp, q_fn, q_cond_true, q_cond_false, Bool.not_true, Bool.not_false, decide_true, decide_false, List.cons_append, List.nil_append]
  refine W.run (eqO W2.rep (W1.up W2.le).rep) ?_
  try simp only [q_bind_some, castInt_int, q_castBool, q_castStr, q_castPtr, q_castFn, q_castAgg, q_castTuple, q_uncons, q_isNil, q_sl, q_nils, q_emp, q_ptr, q_nilp, q_fn, q_cond_true, q_cond_false, Bool.not_true, Bool.not_false, decide_true, decide_false, List.cons_append, List.nil_append, bb]
  obtain ⟨L, c3, _, o3, held⟩ := img_marks W2 ht
  refine W.run c3 ?_
  try simp only [q_bind_some, castInt_int, q_castBool, q_castStr, q_castPtr, q_castFn, q_castAgg, q_castTuple, q_uncons, q_isNil, q_sl, q_nils, q_emp, q_ptr, q_nilp, q_fn, q_cond_true, q_cond_false, Bool.not_true, Bool.not_false, decide_true, decide_false, List.cons_append, List.nil_append]
  refine W.run (held _ (Lh.refl _)) ?_
  have hp : ¬ (((1 + L.length : Nat) : Int) < 0) := by omega
  try simp only [q_bind_some, castInt_int, q_castBool, q_castStr, q_castPtr, q_castFn, q_castAgg, q_castTuple, q_uncons, q_isNil, q_sl, q_nils, q_emp, q_ptr, q_nilp, q_fn, q_cond_true, q_cond_false, Bool.not_true, Bool.not_false, decide_true, decide_false, List.cons_append, List.nil_append, decide_eq_false hp, decide_true]
  have l3 : Lh σ1 (wrs σ2 1 L) := ⟨by rw [wrs_len]; exact W2.le.len, fun j row hj => by
    rw [o3 j fun hc => by have := W2.lo j hc; have := get_lt hj; omega]
    exact W2.le.row j row hj⟩
  generalize wrs σ2 1 L = σ3 at held l3 o3
  refine W.call (implLinkRead_ends (hR.le (l1.trans l3)) y0 hsz) ?_
  rintro w4 σ4 H4
  obtain ⟨vr4, vf4, R4, rfl, W4⟩ := again H4
  try simp only [q_bind_some, castInt_int, q_castBool, q_castStr, q_castPtr, q_castFn, q_castAgg, q_castTuple, q_uncons, q_isNil, q_sl, q_nils, q_emp, q_ptr, q_nilp, q_fn, q_cond_true, q_cond_false, Bool.not_true, Bool.not_false, decide_true, decide_false, List.cons_append, List.nil_append]
  refine W.run (eqO W4.rep (W1.up (l3.trans W4.le)).rep) ?_
  try simp only [q_bind_some, castInt_int, q_castBool, q_castStr, q_castPtr, q_castFn, q_castAgg, q_castTuple, q_uncons, q_isNil, q_sl, q_nils, q_emp, q_ptr, q_nilp, q_fn, q_cond_true, q_cond_false, Bool.not_true, Bool.not_false, decide_true, decide_false, List.cons_append, List.nil_append, bb]
  refine W.run (held _ W4.le) ?_
  try simp only [q_bind_some, castInt_int, q_castBool, q_castStr, q_castPtr, q_castFn, q_castAgg, q_castTuple, q_uncons, q_isNil, q_sl, q_nils, q_emp, q_ptr, q_nilp, q_fn, q_cond_true, q_cond_false, Bool.not_true, Bool.not_false, decide_true, decide_false, List.cons_append, List.nil_append, decide_eq_false hp, decide_true]
  exact W.ret rfl
end Go.F
