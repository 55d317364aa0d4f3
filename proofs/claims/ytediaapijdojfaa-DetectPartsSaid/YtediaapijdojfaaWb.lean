/- Walks, second half. -/
import Derived.Test.YtediaapijdojfaaWa
set_option linter.unusedVariables false
set_option linter.unusedSimpArgs false
namespace Go.Proofs.Ytediaapijdojfaa
open Go Go.SL Go.Shelf Go.RowKit Go.Maps
set_option maxHeartbeats 400000 in
set_option maxRecDepth 4000 in
theorem part19_spec (fW fH first bm : Nat) (vP : Value) (ins0 : List Bool) (w0 : World) (hW : 1 ≤ fW ∧ fW ≤ 100) (hH : 1 ≤ fH ∧ fH ≤ 100) (hi0 : ins0.length = fW * fH) (hfi : first < fW * fH) (hm : setOK (hp w0) bm ins0) :
    Ret Try.prog 19 #[.agg #[.int .i64 (fW : Int), .int .i64 (fH : Int), vP], .map (some bm), .int .i64 (first : Int)] w0 (G := Value) (fun v => v) (fun v w => St w0 w (fun k => k = bm) [] [sl 3 1 v (Det.part fW fH ins0 first).2.length (ints (Det.part fW fH ins0 first).2), ms bm (Det.part fW fH ins0 first).1]) := by
  refine ret_of_WM (lv := [.agg #[.int .i64 (fW : Int), .int .i64 (fH : Int), vP], .map (some bm), .int .i64 (first : Int)]) Try.func19 rfl rfl rfl (fun a hf => ?_)
  replace hf : Fr a 39 [] [(0, .agg #[.int .i64 (fW : Int), .int .i64 (fH : Int), vP]), (1, .map (some bm)), (2, .int .i64 (first : Int))] := hf
  have hS : St w0 w0 (fun k => k = bm) [] [ms bm ins0] := St.ownMs hm
  have hN : fW * fH ≤ 10000 := Nat.mul_le_mul hW.2 hH.2
  refine W.seq ?_
  -- region 0
  refine W.regionL (l := [0, 1, 2]) rfl ?_
  refine O.box (cs := #[.int .i64 (fW : Int), .int .i64 (fH : Int), vP]) hf hS rfl rfl rfl rfl ?_
  clear hf hS a; intro b_m1 w a hbb_m1 hS hf
  refine O.box (cs := #[.map (some bm)]) hf hS rfl rfl rfl rfl ?_
  clear hf hS a; intro b_s2 w a hbb_s2 hS hf
  refine O.val hf rfl rfl rfl (RunV.assign rfl) ?_
  clear hf a; intro a hf
  refine O.nil ?_
  refine k_seq ?_
  replace hf : Fr a 39 [] [(2, .int .i64 (first : Int)), (3, .pointer (some ⟨b_m1, 0, none⟩)), (4, .pointer (some ⟨b_s2, 0, none⟩)), (6, .slice none 0 0)] := hf.to ⟨rfl, rfl, rfl, rfl, trivial⟩
  refine W.seq ?_
  -- region 1
  refine W.regionL (l := [0, 1, 2]) rfl ?_
  refine O.val hf rfl rfl rfl (RunV.load1 T_agg_40 rfl (hS.ptAt (i := 0) rfl) rfl) ?_
  clear hf a; intro a hf
  refine O.val hf rfl rfl rfl (RunV.move rfl) ?_
  clear hf a; intro a hf
  refine O.mapDel (j := 2) hf hS rfl T_set_40 rfl rfl rfl rfl rfl ?_
  clear hS; intro w hS
  refine O.nil ?_
  refine k_seq ?_
  replace hf : Fr a 39 [] [(2, .int .i64 (first : Int)), (3, .pointer (some ⟨b_m1, 0, none⟩)), (4, .pointer (some ⟨b_s2, 0, none⟩)), (6, .slice none 0 0)] := hf.to ⟨rfl, rfl, rfl, rfl, trivial⟩
  refine W.seq ?_
  -- region 2
  refine W.regionL (l := [0, 1, 2, 3]) rfl ?_
  refine O.val hf rfl rfl rfl (RunV.move rfl) ?_
  clear hf a; intro a hf
  refine O.buildSlice (cs' := #[.int .i64 (first : Int)]) (zs := #[.int .i64 0]) hf hS rfl rfl T_elem_46 T_size_3 T_zero_3 rfl rfl rfl rfl rfl ?_
  clear hf hS a; intro b_s3 w a hbb_s3 hS hf
  refine O.alloc (cs := #[.slice none 0 0]) hf hS rfl rfl T_zero_46 rfl ?_
  clear hf hS a; intro b_out4 w a hbb_out4 hS hf
  refine O.store (j := 0) (cs' := #[.slice (some ⟨b_s3, 0, none⟩) 1 1]) (M' := [pt b_out4 (.cells #[.slice (some ⟨b_s3, 0, none⟩) 1 1] 46 (0, 0)), pt b_s3 (.cells #[.int .i64 (first : Int)] 3 (0, 0)), pt b_s2 (.cells #[.map (some bm)] 40 (0, 0)), pt b_m1 (.cells #[.int .i64 (fW : Int), .int .i64 (fH : Int), vP] 42 (0, 0)), ms bm (ins0.set first false)]) hf hS rfl rfl rfl T_size_46 rfl rfl rfl (Nat.le_of_ble_eq_true rfl) rfl rfl ?_
  clear hS; intro w hS
  refine O.nil ?_
  replace hS := hS.ptSl (j := 1) (n := 1) (sz := 1) (xs := ints [(first : Int)]) (M' := [pt b_out4 (.cells #[.slice (some ⟨b_s3, 0, none⟩) 1 1] 46 (0, 0)), sl 3 1 (.slice (some ⟨b_s3, 0, none⟩) 1 1) 1 (ints [(first : Int)]), pt b_s2 (.cells #[.map (some bm)] 40 (0, 0)), pt b_m1 (.cells #[.int .i64 (fW : Int), .int .i64 (fH : Int), vP] 42 (0, 0)), ms bm (ins0.set first false)]) rfl (by unfold maxLen; omega) rfl rfl rfl
  obtain ⟨vt0, hvv⟩ : ∃ v, (.slice (some ⟨b_s3, 0, none⟩) 1 1 : Value) = v := ⟨_, rfl⟩
  rw [hvv] at hf hS; clear hvv
  replace hS : St w0 _ (fun k => k = bm) [] [pt b_out4 (.cells #[vt0] 46 (0, 0)), sl 3 1 vt0 (([(first : Int)]).length) (ints [(first : Int)]), pt b_s2 (.cells #[.map (some bm)] 40 (0, 0)), pt b_m1 (.cells #[.int .i64 (fW : Int), .int .i64 (fH : Int), vP] 42 (0, 0)), ms bm (ins0.set first false)] := hS
  refine k_seq ?_
  replace hf : Fr a 39 [] [(3, .pointer (some ⟨b_m1, 0, none⟩)), (4, .pointer (some ⟨b_s2, 0, none⟩)), (6, .slice none 0 0), (7, .pointer (some ⟨b_out4, 0, none⟩))] := hf.to ⟨rfl, rfl, rfl, rfl, trivial⟩
  refine W.seq ?_
  refine W.seq ?_
  -- region 3
  refine W.regionL (l := [0]) rfl ?_
  refine O.val hf rfl rfl rfl (RunV.assign rfl) ?_
  clear hf a; intro a hf
  refine O.nil ?_
  refine k_seq ?_
  refine W.block ?_
  replace hS := hS.mk0
  -- loop 0
  refine W.loop (G := (Nat) × (Value) × (List Bool) × (List Int) × (List Nat)) (fun g a w => match g with | (k, vt, ins, todo, Ds) => Fr a 39 (mkDs Ds) [(3, .pointer (some ⟨b_m1, 0, none⟩)), (4, .pointer (some ⟨b_s2, 0, none⟩)), (6, .slice none 0 0), (7, .pointer (some ⟨b_out4, 0, none⟩)), (8, .int .i64 (k : Int))] ∧ St w0 w (fun k => k = bm) [] [mkA Ds, pt b_out4 (.cells #[vt] 46 (0, 0)), sl 3 1 vt todo.length (ints todo), pt b_s2 (.cells #[.map (some bm)] 40 (0, 0)), pt b_m1 (.cells #[.int .i64 (fW : Int), .int .i64 (fH : Int), vP] 42 (0, 0)), ms bm ins] ∧ (k ≤ todo.length) ∧ ((ins, todo) = Det.bfs fW fH ins0 first k) ∧ (Det.Inv (fW * fH) (ins, todo)) ∧ (Det.Inv2 (ins, todo))) (fun g => match g with | (k, vt, ins, todo, Ds) => fW * fH - k) (0, vt0, (ins0.set first false), [(first : Int)], []) ?_ ?_
  · refine ⟨hf.to ⟨rfl, rfl, rfl, rfl, (by first | rfl | exact congrArg some (congrArg (Value.int _) (by omega))), trivial⟩, hS, ?_, ?_, ?_, ?_⟩
    · omega
    · rfl
    · exact Det.Inv.start hi0 hfi
    · exact Det.Inv2.start
  clear hf hS a
  rintro ⟨k, vt, ins, todo, Ds⟩ a w ⟨hf, hS, h1, h2, hI, hJ⟩
  refine W.seq ?_
  refine W.seq ?_
  -- region 4
  refine W.regionL (l := [0, 1, 2, 3]) rfl ?_
  refine O.val hf rfl rfl rfl (RunV.move rfl) ?_
  clear hf a; intro a hf
  refine O.val hf rfl rfl rfl (RunV.load1 T_agg_46 rfl (hS.ptAt (i := 1) rfl) rfl) ?_
  clear hf a; intro a hf
  refine O.val hf rfl rfl rfl (RunV.lenV (e := 3) (by simpa using T_elem_46) rfl (hS.slr (j := 2) rfl)) ?_
  clear hf a; intro a hf
  refine O.val (v := .bool (decide ((k : Int) < ((todo.length : Int) : Int)))) hf rfl rfl rfl (RunV.lss rfl rfl) ?_
  clear hf a; intro a hf
  refine O.nil ?_
  refine k_seq ?_
  replace hf : Fr a 39 (mkDs Ds) [(3, .pointer (some ⟨b_m1, 0, none⟩)), (4, .pointer (some ⟨b_s2, 0, none⟩)), (6, .slice none 0 0), (7, .pointer (some ⟨b_out4, 0, none⟩)), (8, .int .i64 (k : Int)), (17, .bool (decide ((k : Int) < ((todo.length : Int) : Int))))] := hf.to ⟨rfl, rfl, rfl, rfl, rfl, rfl, trivial⟩
  refine W.ifdI hf rfl (fun hk => ?_) (fun hk => ?_)
  · refine W.skip ?_
    refine k_seq ?_
    refine W.seq ?_
    refine W.block ?_
    refine W.seq ?_
    -- region 6, which draws its order: quiet up to operation 5
    refine W.drawM (l₂ := [5]) (fun w => St w0 w (fun k => k = bm) [] [mkA Ds, pt b_out4 (.cells #[vt] 46 (0, 0)), sl 3 1 vt todo.length (ints todo), pt b_s2 (.cells #[.map (some bm)] 40 (0, 0)), pt b_m1 (.cells #[.int .i64 (fW : Int), .int .i64 (fH : Int), vP] 42 (0, 0)), ms bm ins]) 5 P_mixed rfl rfl rfl (by kernel_rfl) hS.drew ?_
    clear hS
    refine OQ.val (v := .agg #[.int .i64 (fW : Int), .int .i64 (fH : Int), vP]) hf rfl (fun w hS => RunV.loadN (cs' := #[.int .i64 (fW : Int), .int .i64 (fH : Int), vP]) T_agg_42 T_size_42 rfl (hS.ptAt (i := 4) rfl) (Nat.le_of_ble_eq_true rfl) rfl) ?_; clear hf a; intro a hf
    refine OQ.val (v := vt) hf rfl (fun w hS => RunV.load1 T_agg_46 rfl (hS.ptAt (i := 1) rfl) rfl) ?_; clear hf a; intro a hf
    refine OQ.val (v := .int .i64 (k : Int)) hf rfl (fun w hS => RunV.move rfl) ?_; clear hf a; intro a hf
    refine OQ.val (v := ix vt k) hf rfl (fun w hS => RunV.ixV (j := k) (m := k) T_elem_46 T_size_3 rfl rfl (hS.slr (j := 2) rfl) rfl (by omega) (Nat.mul_one _)) ?_; clear hf a; intro a hf
    refine OQ.val (v := .int .i64 (todo.getD k 0)) hf rfl (fun w hS => RunV.ld1 T_agg_3 rfl (hS.slr (j := 2) rfl) (ints_get (by omega))) ?_; clear hf a; intro a hf
    refine OQ.nil ?_; intro w hS
    have hgk := hI.2.2 _ (Det.getD_mem (l := todo) (j := k) (by omega))
    rw [show todo.getD k 0 = (((todo.getD k 0).toNat : Nat) : Int) from by omega] at hf
    refine O.callR hf rfl rfl rfl (RunE.call (av := #[.agg #[.int .i64 (fW : Int), .int .i64 (fH : Int), vP], .int .i64 ((todo.getD k 0).toNat : Int)]) C_ok_24 rfl rfl rfl) (near24_spec (fW : Int) (fH : Int) ((todo.getD k 0).toNat : Int) vP _) ?_
    clear hf a
    rintro ⟨bi, bj⟩ w6 hS1 a hf
    replace hf : Fr a _ _ ((25, .func (.func 30) #[] #[.pointer (some ⟨bi, 0, none⟩), .pointer (some ⟨bj, 0, none⟩)]) :: _) := hf
    replace hS := (hS.call hS1).eqM (N := [pt bi (.cells #[.int .i64 ((todo.getD k 0).toNat : Int)] 3 (0, 0)), pt bj (.cells #[.int .i64 (fW : Int), .int .i64 (fH : Int), vP] 42 (0, 0)), mkA Ds, pt b_out4 (.cells #[vt] 46 (0, 0)), sl 3 1 vt todo.length (ints todo), pt b_s2 (.cells #[.map (some bm)] 40 (0, 0)), pt b_m1 (.cells #[.int .i64 (fW : Int), .int .i64 (fH : Int), vP] 42 (0, 0)), ms bm ins]) rfl
    clear hS1
    refine O.nil ?_
    refine k_seq ?_
    replace hf : Fr a 39 (mkDs Ds) [(3, .pointer (some ⟨b_m1, 0, none⟩)), (4, .pointer (some ⟨b_s2, 0, none⟩)), (6, .slice none 0 0), (7, .pointer (some ⟨b_out4, 0, none⟩)), (8, .int .i64 (k : Int)), (25, .func (.func 30) #[] #[.pointer (some ⟨bi, 0, none⟩), .pointer (some ⟨bj, 0, none⟩)])] := hf.to ⟨rfl, rfl, rfl, rfl, rfl, rfl, trivial⟩
    refine W.block ?_
    have hit := near_iter fW fH (todo.getD k 0).toNat bi bj vP hW hH (by have := hI.2.2 _ (Det.getD_mem (l := todo) (j := k) (by omega)); omega)
    have hlr : ∀ t ∈ Det.nb fW fH (todo.getD k 0).toNat, 0 ≤ t ∧ t < ((fW * fH : Nat) : Int) := fun t ht => Det.nb_mem ht
    have hstep := Det.bfs_step (s := (ins, todo)) h2 (by dsimp only; omega)
    dsimp only at hstep
    generalize hl : Det.nb fW fH (todo.getD k 0).toNat = l at *
    -- a range over a function
    refine W.rangeFn (G := (Value) × (List Bool) × (List Int)) (fun x => (9, x) :: [(4, .pointer (some ⟨b_s2, 0, none⟩)), (7, .pointer (some ⟨b_out4, 0, none⟩))]) (fun g => match g with | (vu, in2, td) => [pt bi (.cells #[.int .i64 ((todo.getD k 0).toNat : Int)] 3 (0, 0)), pt bj (.cells #[.int .i64 (fW : Int), .int .i64 (fH : Int), vP] 42 (0, 0)), mkA Ds, pt b_out4 (.cells #[vu] 46 (0, 0)), sl 3 1 vu td.length (ints td), pt b_s2 (.cells #[.map (some bm)] 40 (0, 0)), pt b_m1 (.cells #[.int .i64 (fW : Int), .int .i64 (fH : Int), vP] 42 (0, 0)), ms bm in2]) (fun j g => match g with | (vu, in2, td) => ((in2, td) = Det.visitN (ins, todo) l j) ∧ (Det.Inv (fW * fH) (in2, td)) ∧ (Det.Inv2 (in2, td))) (vt, ins, todo) [(bi, Obj.cells #[.int .i64 ((todo.getD k 0).toNat : Int)] 3 (0, 0)), (bj, Obj.cells #[.int .i64 (fW : Int), .int .i64 (fH : Int), vP] 42 (0, 0))] hf rfl rfl C_ok_30 hS ?_ (hit) ?_ ?_ ?_ ?_
    · refine ⟨?_, ?_, ?_⟩
      · rfl
      · exact hI
      · exact hJ
    · rintro ⟨vu, in2, td⟩ w hS
      intro p hp
      simp only [List.mem_cons, List.not_mem_nil, or_false] at hp
      rcases hp with rfl | rfl
      · exact hS.ptAt (i := 0) rfl
      · exact hS.ptAt (i := 1) rfl
    · intro l x w a hf
      refine W.regionL (l := [0]) rfl ?_
      refine O.val (v := x) hf rfl rfl rfl (RunV.assign rfl) ?_; clear hf a; intro a hf
      refine O.nil ⟨rfl, hf.to ⟨rfl, rfl, rfl, trivial⟩, rfl⟩
    · rintro lr o_ D j x ⟨vu, in2, td⟩ w hx ⟨h5, hI2, hJ2⟩ hS a hf
      replace hf : Fr a 39 [] ((9, x) :: [(4, .pointer (some ⟨b_s2, 0, none⟩)), (7, .pointer (some ⟨b_out4, 0, none⟩))]) := hf
      obtain ⟨hj, rfl⟩ := ints_at hx
      have hjr := hlr _ (Det.getD_mem (l := l) hj)
      obtain ⟨q, hq⟩ := Int.eq_ofNat_of_zero_le hjr.1
      rw [hq] at hf hjr
      refine W.block ?_
      refine W.seq ?_
      -- region 8
      refine W.regionL (l := [0, 1, 2]) rfl ?_
      refine O.val hf rfl rfl rfl (RunV.load1 T_agg_40 rfl (hS.ptAt (i := 7) rfl) rfl) ?_
      clear hf a; intro a hf
      refine O.val hf rfl rfl rfl (RunV.move rfl) ?_
      clear hf a; intro a hf
      refine O.val hf rfl rfl rfl (RunV.lookupS T_set_40 rfl rfl (hS.msAt (j := 9) rfl)) ?_
      clear hf a; intro a hf
      refine O.nil ?_
      refine k_seq ?_
      replace hf : Fr a 39 [] [(4, .pointer (some ⟨b_s2, 0, none⟩)), (7, .pointer (some ⟨b_out4, 0, none⟩)), (9, .int .i64 (q : Int)), (29, .bool (in2.getD q false))] := hf.to ⟨rfl, rfl, rfl, rfl, trivial⟩
      refine W.if_ hf rfl (fun hc => ?_) (fun hc => ?_)
      · have hcb := hc
        try simp only [Bool.and_eq_true, Bool.or_eq_true, Bool.and_eq_false_iff, Bool.or_eq_false_iff, decide_eq_true_eq, decide_eq_false_iff_not, Bool.not_eq_true', Bool.not_eq_false', Bool.not_eq_true, Bool.not_eq_false, ne_eq] at hc
        refine W.seq ?_
        -- region 9
        refine W.regionL (l := [0, 1, 2]) rfl ?_
        refine O.val hf rfl rfl rfl (RunV.load1 T_agg_40 rfl (hS.ptAt (i := 7) rfl) rfl) ?_
        clear hf a; intro a hf
        refine O.val hf rfl rfl rfl (RunV.move rfl) ?_
        clear hf a; intro a hf
        refine O.mapDel (j := 9) hf hS rfl T_set_40 rfl rfl rfl rfl rfl ?_
        clear hS; intro w hS
        refine O.nil ?_
        refine k_seq ?_
        replace hf : Fr a 39 [] [(7, .pointer (some ⟨b_out4, 0, none⟩)), (9, .int .i64 (q : Int))] := hf.to ⟨rfl, rfl, trivial⟩
        -- region 10
        refine W.regionL (l := [0, 1, 2, 3, 4]) rfl ?_
        refine O.val hf rfl rfl rfl (RunV.load1 T_agg_46 rfl (hS.ptAt (i := 5) rfl) rfl) ?_
        clear hf a; intro a hf
        refine O.val hf rfl rfl rfl (RunV.move rfl) ?_
        clear hf a; intro a hf
        refine O.buildSlice (cs' := #[.int .i64 (q : Int)]) (zs := #[.int .i64 0]) hf hS rfl rfl T_elem_46 T_size_3 T_zero_3 rfl rfl rfl rfl rfl ?_
        clear hf hS a; intro b_s8 w a hbb_s8 hS hf
        refine O.append1 (j := 7) (jj := 0) hf hS rfl rfl T_elem_46 T_size_3 T_bytes_3 T_zero_3 rfl rfl rfl rfl rfl rfl rfl rfl (by have := hI2.2.1; dsimp only at this; unfold maxLen; omega) (by have := hI2.2.1; dsimp only at this; omega) ?_
        clear hf hS a; intro v9 w a hS hf
        replace hS := hS.eqM (N := [pt b_s8 (.cells #[.int .i64 (q : Int)] 3 (0, 0)), pt lr o_, pt D (.deferred (some [])), pt bi (.cells #[.int .i64 ((todo.getD k 0).toNat : Int)] 3 (0, 0)), pt bj (.cells #[.int .i64 (fW : Int), .int .i64 (fH : Int), vP] 42 (0, 0)), mkA Ds, pt b_out4 (.cells #[vu] 46 (0, 0)), sl 3 1 v9 (td.length + 1) (ints td ++ [.int .i64 (q : Int)]), pt b_s2 (.cells #[.map (some bm)] 40 (0, 0)), pt b_m1 (.cells #[.int .i64 (fW : Int), .int .i64 (fH : Int), vP] 42 (0, 0)), ms bm (in2.set q false)]) rfl
        replace hS := hS.eqM (N := [pt b_s8 (.cells #[.int .i64 (q : Int)] 3 (0, 0)), pt lr o_, pt D (.deferred (some [])), pt bi (.cells #[.int .i64 ((todo.getD k 0).toNat : Int)] 3 (0, 0)), pt bj (.cells #[.int .i64 (fW : Int), .int .i64 (fH : Int), vP] 42 (0, 0)), mkA Ds, pt b_out4 (.cells #[vu] 46 (0, 0)), sl 3 1 v9 ((td ++ [(q : Int)]).length) (ints (td ++ [(q : Int)])), pt b_s2 (.cells #[.map (some bm)] 40 (0, 0)), pt b_m1 (.cells #[.int .i64 (fW : Int), .int .i64 (fH : Int), vP] 42 (0, 0)), ms bm (in2.set q false)]) (by rw [sl_ints])
        have hcl10 := rdOK.cells (hS.slr (j := 7) rfl)
        refine O.store (m := 1) (j := 6) (cs' := #[v9]) (M' := [pt b_s8 (.cells #[.int .i64 (q : Int)] 3 (0, 0)), pt lr o_, pt D (.deferred (some [])), pt bi (.cells #[.int .i64 ((todo.getD k 0).toNat : Int)] 3 (0, 0)), pt bj (.cells #[.int .i64 (fW : Int), .int .i64 (fH : Int), vP] 42 (0, 0)), mkA Ds, pt b_out4 (.cells #[v9] 46 (0, 0)), sl 3 1 v9 ((td ++ [(q : Int)]).length) (ints (td ++ [(q : Int)])), pt b_s2 (.cells #[.map (some bm)] 40 (0, 0)), pt b_m1 (.cells #[.int .i64 (fW : Int), .int .i64 (fH : Int), vP] 42 (0, 0)), ms bm (in2.set q false)]) hf hS rfl rfl rfl T_size_46 (by rw [hcl10.1]; rfl) (by rw [hcl10.1]; exact hcl10.2) rfl (Nat.le_of_ble_eq_true rfl) (by rw [hcl10.1]; rfl) rfl ?_
        clear hS; intro w hS
        refine O.nil ?_
        refine k_blk_normal ?_
        replace hS := hS.sub (N := [pt lr o_, pt D (.deferred (some [])), pt bi (.cells #[.int .i64 ((todo.getD k 0).toNat : Int)] 3 (0, 0)), pt bj (.cells #[.int .i64 (fW : Int), .int .i64 (fH : Int), vP] 42 (0, 0)), mkA Ds, pt b_out4 (.cells #[v9] 46 (0, 0)), sl 3 1 v9 ((td ++ [(q : Int)]).length) (ints (td ++ [(q : Int)])), pt b_s2 (.cells #[.map (some bm)] 40 (0, 0)), pt b_m1 (.cells #[.int .i64 (fW : Int), .int .i64 (fH : Int), vP] 42 (0, 0)), ms bm (in2.set q false)]) (.cons _ (.cons_cons _ (.cons_cons _ (.cons_cons _ (.cons_cons _ (.cons_cons _ (.cons_cons _ (.cons_cons _ (.cons_cons _ (.cons_cons _ (.cons_cons _ .slnil)))))))))))
        refine ⟨rfl, (v9, in2.set q false, (td ++ [(q : Int)])), ⟨?_, ?_, ?_⟩, hS⟩
        · have h := Det.visitN_take h5 (by rw [hq]; exact hc)
          rw [hq] at h; exact h
        · exact Det.Inv.take hI2 (by omega) hc
        · exact Det.Inv2.take hJ2 hc
      · have hcb := hc
        try simp only [Bool.and_eq_true, Bool.or_eq_true, Bool.and_eq_false_iff, Bool.or_eq_false_iff, decide_eq_true_eq, decide_eq_false_iff_not, Bool.not_eq_true', Bool.not_eq_false', Bool.not_eq_true, Bool.not_eq_false, ne_eq] at hc
        refine W.skip ?_
        refine k_blk_normal ?_
        refine ⟨rfl, (vu, in2, td), ⟨?_, ?_, ?_⟩, hS⟩
        · exact Det.visitN_skip h5 (by rw [hq]; simpa using hc)
        · exact hI2
        · exact hJ2
    rintro D ⟨vu, in2, td⟩ a w ⟨h5, hI2, hJ2⟩ hS hf
    replace hS := hS.front (i := 3) (M' := [mkA Ds, pt D (.deferred (some [])), pt bi (.cells #[.int .i64 ((todo.getD k 0).toNat : Int)] 3 (0, 0)), pt bj (.cells #[.int .i64 (fW : Int), .int .i64 (fH : Int), vP] 42 (0, 0)), pt b_out4 (.cells #[vu] 46 (0, 0)), sl 3 1 vu td.length (ints td), pt b_s2 (.cells #[.map (some bm)] 40 (0, 0)), pt b_m1 (.cells #[.int .i64 (fW : Int), .int .i64 (fH : Int), vP] 42 (0, 0)), ms bm in2]) rfl rfl
    replace hS := hS.front (i := 1) (M' := [pt D (.deferred (some [])), mkA Ds, pt bi (.cells #[.int .i64 ((todo.getD k 0).toNat : Int)] 3 (0, 0)), pt bj (.cells #[.int .i64 (fW : Int), .int .i64 (fH : Int), vP] 42 (0, 0)), pt b_out4 (.cells #[vu] 46 (0, 0)), sl 3 1 vu td.length (ints td), pt b_s2 (.cells #[.map (some bm)] 40 (0, 0)), pt b_m1 (.cells #[.int .i64 (fW : Int), .int .i64 (fH : Int), vP] 42 (0, 0)), ms bm in2]) rfl rfl
    replace hS := hS.mkCons (M := [pt bi (.cells #[.int .i64 ((todo.getD k 0).toNat : Int)] 3 (0, 0)), pt bj (.cells #[.int .i64 (fW : Int), .int .i64 (fH : Int), vP] 42 (0, 0)), pt b_out4 (.cells #[vu] 46 (0, 0)), sl 3 1 vu td.length (ints td), pt b_s2 (.cells #[.map (some bm)] 40 (0, 0)), pt b_m1 (.cells #[.int .i64 (fW : Int), .int .i64 (fH : Int), vP] 42 (0, 0)), ms bm in2])
    replace hf : Fr a 39 (mkDs (D :: Ds)) [(3, .pointer (some ⟨b_m1, 0, none⟩)), (4, .pointer (some ⟨b_s2, 0, none⟩)), (6, .slice none 0 0), (7, .pointer (some ⟨b_out4, 0, none⟩)), (8, .int .i64 (k : Int)), (25, .func (.func 30) #[] #[.pointer (some ⟨bi, 0, none⟩), .pointer (some ⟨bj, 0, none⟩)])] := hf
    refine k_blk_normal ?_
    refine k_blk_normal ?_
    refine k_seq ?_
    -- region 5
    refine W.regionL (l := [0, 1, 2]) rfl ?_
    have hi4 := hI.2.1; dsimp only at hi4
    refine O.val hf rfl rfl rfl (RunV.move rfl) ?_
    clear hf a; intro a hf
    refine O.val hf rfl rfl rfl (RunV.addI rfl rfl (by omega)) ?_
    clear hf a; intro a hf
    refine O.val hf rfl rfl rfl (RunV.assign rfl) ?_
    clear hf a; intro a hf
    refine O.nil ?_
    replace hS := hS.sub (N := [mkA (D :: Ds), pt b_out4 (.cells #[vu] 46 (0, 0)), sl 3 1 vu td.length (ints td), pt b_s2 (.cells #[.map (some bm)] 40 (0, 0)), pt b_m1 (.cells #[.int .i64 (fW : Int), .int .i64 (fH : Int), vP] 42 (0, 0)), ms bm in2]) (.cons_cons _ (.cons _ (.cons _ (.cons_cons _ (.cons_cons _ (.cons_cons _ (.cons_cons _ (.cons_cons _ .slnil))))))))
    refine k_then ⟨(k + 1, vu, in2, td, (D :: Ds)), ⟨hf.to ⟨rfl, rfl, rfl, rfl, (by first | rfl | exact congrArg some (congrArg (Value.int _) (by omega))), trivial⟩, ?_, ?_, ?_, ?_, ?_⟩, ?_⟩
    · exact hS.eqM rfl
    · have := Det.visitN_le (s := (ins, todo)) (l := l) (ints l).length; rw [← h5] at this; dsimp only at this; omega
    · rw [ints_len] at h5; rw [h5]; exact hstep
    · exact hI2
    · exact hJ2
    · dsimp only; have := hI2.2.1; have := Det.visitN_le (s := (ins, todo)) (l := l) (ints l).length; rw [← h5] at this; dsimp only at *; omega
  · refine W.exit ?_
    refine k_then_exit ?_
    refine k_then_exit ?_
    refine k_blk ?_
    refine k_seq ?_
    replace hf : Fr a 39 (mkDs Ds) [(6, .slice none 0 0), (7, .pointer (some ⟨b_out4, 0, none⟩))] := hf.to ⟨rfl, rfl, trivial⟩
    refine W.seq ?_
    -- region 11
    refine W.regionL (l := [0, 1]) rfl ?_
    refine O.val hf rfl rfl rfl (RunV.load1 T_agg_46 rfl (hS.ptAt (i := 1) rfl) rfl) ?_
    clear hf a; intro a hf
    refine O.callR hf rfl rfl rfl (RunE.call (av := #[vt]) C_ok_22 rfl rfl rfl) (sort_spec vt todo _ (hS.slAt (j := 2) rfl) (by have := hI.2.1; dsimp only at this; omega)) ?_
    clear hf a
    rintro _ w11 hS1 a hf
    replace hf : Fr a _ _ ((37, .tuple #[]) :: _) := hf
    replace hS := (hS.callX1 hS1 (i := 2) rfl (fun _ h => h)).eqM (N := [sl 3 1 vt ((Det.srt todo).length) (ints (Det.srt todo)), mkA Ds, pt b_out4 (.cells #[vt] 46 (0, 0)), pt b_s2 (.cells #[.map (some bm)] 40 (0, 0)), pt b_m1 (.cells #[.int .i64 (fW : Int), .int .i64 (fH : Int), vP] 42 (0, 0)), ms bm ins]) rfl
    clear hS1
    refine O.nil ?_
    refine k_seq ?_
    replace hf : Fr a 39 (mkDs Ds) [(6, .slice none 0 0), (7, .pointer (some ⟨b_out4, 0, none⟩))] := hf.to ⟨rfl, rfl, trivial⟩
    refine W.seq ?_
    -- region 12
    refine W.regionL (l := [0, 1]) rfl ?_
    refine O.val hf rfl rfl rfl (RunV.load1 T_agg_46 rfl (hS.ptAt (i := 2) rfl) rfl) ?_
    clear hf a; intro a hf
    refine O.val hf rfl rfl rfl (RunV.assign rfl) ?_
    clear hf a; intro a hf
    refine O.nil ?_
    refine k_seq ?_
    replace hf : Fr a 39 (mkDs Ds) [(6, vt)] := hf.to ⟨rfl, trivial⟩
    refine W.ret ?_
    replace hS := hS.front (i := 1) (M' := [mkA Ds, sl 3 1 vt ((Det.srt todo).length) (ints (Det.srt todo)), pt b_out4 (.cells #[vt] 46 (0, 0)), pt b_s2 (.cells #[.map (some bm)] 40 (0, 0)), pt b_m1 (.cells #[.int .i64 (fW : Int), .int .i64 (fH : Int), vP] 42 (0, 0)), ms bm ins]) rfl rfl
    refine postM hS hf ?_; clear hS hf a; intro w a hf hS
    refine post1 hf rfl (ResOK.tmp rfl) ?_
    obtain rfl : k = todo.length := by omega
    have hp := Det.part_of h2 (by have := hI.2.1; dsimp only at this; omega)
    have hs := Det.srt_asc hJ.1 hI.2.2
    dsimp only at hs
    replace hS := hS.front (i := 4) (M' := [ms bm ins, sl 3 1 vt ((Det.srt todo).length) (ints (Det.srt todo)), pt b_out4 (.cells #[vt] 46 (0, 0)), pt b_s2 (.cells #[.map (some bm)] 40 (0, 0)), pt b_m1 (.cells #[.int .i64 (fW : Int), .int .i64 (fH : Int), vP] 42 (0, 0))]) rfl rfl
    replace hS := hS.front (i := 1) (M' := [sl 3 1 vt ((Det.srt todo).length) (ints (Det.srt todo)), ms bm ins, pt b_out4 (.cells #[vt] 46 (0, 0)), pt b_s2 (.cells #[.map (some bm)] 40 (0, 0)), pt b_m1 (.cells #[.int .i64 (fW : Int), .int .i64 (fH : Int), vP] 42 (0, 0))]) rfl rfl
    rw [hs] at hS; refine ⟨vt, rfl, ?_⟩; rw [hp]; exact (hS.sub (List.Sublist.cons_cons _ (List.Sublist.cons_cons _ (List.nil_sublist _)))).noB

set_option maxHeartbeats 400000 in
set_option maxRecDepth 4000 in
theorem part13_spec (fW fH first : Nat) (vP vI : Value) (zs : List Int) (ins0 : List Bool) (w0 : World) (hW : 1 ≤ fW ∧ fW ≤ 100) (hH : 1 ≤ fH ∧ fH ≤ 100) (hn : zs.length = fW * fH) (hi0 : ins0.length = fW * fH) (hfi : first < fW * fH) (hP : rdOK (hp w0) 1 vP zs.length (ints zs)) (hI0 : slOK (hp w0) 4 1 vI ins0.length (bools ins0)) (hsep : ∀ b, 0 < zs.length → vP.ownBlock = some b → ¬ vI.ownBlock = some b) :
    Ret Try.prog 20 #[.agg #[.int .i64 (fW : Int), .int .i64 (fH : Int), vP], vI, .int .i64 (first : Int)] w0 (G := Value) (fun v => v) (fun v w => St w0 w (fun b => vI.ownBlock = some b) [] [sl 3 1 v (Det.part fW fH ins0 first).2.length (ints (Det.part fW fH ins0 first).2), sl 4 1 vI (Det.part fW fH ins0 first).1.length (bools (Det.part fW fH ins0 first).1)]) := by
  refine ret_of_W (lv := [.agg #[.int .i64 (fW : Int), .int .i64 (fH : Int), vP], vI, .int .i64 (first : Int)]) Try.func20 rfl rfl rfl (fun a hf => ?_)
  replace hf : Fr a 77 [] [(0, .agg #[.int .i64 (fW : Int), .int .i64 (fH : Int), vP]), (1, vI), (2, .int .i64 (first : Int))] := hf
  have hS : St w0 w0 (fun b => vI.ownBlock = some b) [rdv 1 vP zs.length (ints zs)] [sl 4 1 vI ins0.length (bools ins0)] := (St.own hI0).lend hP hsep
  have hN : fW * fH ≤ 10000 := Nat.mul_le_mul hW.2 hH.2
  refine W.seq ?_
  -- region 0
  refine W.regionL (l := [0, 1]) rfl ?_
  refine O.box (cs := #[.int .i64 (fW : Int), .int .i64 (fH : Int), vP]) hf hS rfl rfl rfl rfl ?_
  clear hf hS a; intro b_x1 w a hbb_x1 hS hf
  refine O.val hf rfl rfl rfl (RunV.assign rfl) ?_
  clear hf a; intro a hf
  refine O.nil ?_
  refine k_seq ?_
  replace hf : Fr a 77 [] [(1, vI), (2, .int .i64 (first : Int)), (3, .pointer (some ⟨b_x1, 0, none⟩)), (6, .slice none 0 0)] := hf.to ⟨rfl, rfl, rfl, rfl, trivial⟩
  refine W.seq ?_
  -- region 1
  refine W.regionL (l := [0, 1, 2]) rfl ?_
  refine O.val hf rfl rfl rfl (RunV.move rfl) ?_
  clear hf a; intro a hf
  refine O.buildSlice (cs' := #[.int .i64 (first : Int)]) (zs := #[.int .i64 0]) hf hS rfl rfl T_elem_46 T_size_3 T_zero_3 rfl rfl rfl rfl rfl ?_
  clear hf hS a; intro b_s2 w a hbb_s2 hS hf
  refine O.val hf rfl rfl rfl (RunV.assign rfl) ?_
  clear hf a; intro a hf
  refine O.nil ?_
  replace hS := hS.ptSl (j := 0) (n := 1) (sz := 1) (xs := ints [(first : Int)]) (M' := [sl 3 1 (.slice (some ⟨b_s2, 0, none⟩) 1 1) 1 (ints [(first : Int)]), pt b_x1 (.cells #[.int .i64 (fW : Int), .int .i64 (fH : Int), vP] 24 (0, 0)), sl 4 1 vI ins0.length (bools ins0)]) rfl (by unfold maxLen; omega) rfl rfl rfl
  obtain ⟨vt0, hvv⟩ : ∃ v, (.slice (some ⟨b_s2, 0, none⟩) 1 1 : Value) = v := ⟨_, rfl⟩
  rw [hvv] at hf hS; clear hvv
  replace hS : St w0 _ (fun b => vI.ownBlock = some b) [rdv 1 vP zs.length (ints zs)] [sl 3 1 vt0 (([(first : Int)]).length) (ints [(first : Int)]), pt b_x1 (.cells #[.int .i64 (fW : Int), .int .i64 (fH : Int), vP] 24 (0, 0)), sl 4 1 vI ins0.length (bools ins0)] := hS
  refine k_seq ?_
  replace hf : Fr a 77 [] [(1, vI), (2, .int .i64 (first : Int)), (3, .pointer (some ⟨b_x1, 0, none⟩)), (6, .slice none 0 0), (7, vt0)] := hf.to ⟨rfl, rfl, rfl, rfl, rfl, trivial⟩
  refine W.seq ?_
  -- region 2
  refine W.regionL (l := [0, 1, 2, 3]) rfl ?_
  refine O.val hf rfl rfl rfl (RunV.move rfl) ?_
  clear hf a; intro a hf
  refine O.val hf rfl rfl rfl (RunV.move rfl) ?_
  clear hf a; intro a hf
  refine O.val hf rfl rfl rfl (RunV.ixV (j := first) (m := first) T_elem_25 T_size_4 rfl rfl (hS.slr (j := 2) rfl) rfl (by omega) (Nat.mul_one _)) ?_
  clear hf a; intro a hf
  refine O.storeSl (j := 2) (m := first) (xs' := bools (ins0.set first false)) (M' := [sl 3 1 vt0 (([(first : Int)]).length) (ints [(first : Int)]), pt b_x1 (.cells #[.int .i64 (fW : Int), .int .i64 (fH : Int), vP] 24 (0, 0)), sl 4 1 vI ins0.length (bools (ins0.set first false))]) hf hS rfl rfl rfl T_size_4 rfl rfl rfl (by simp only [bools_len]; omega) bools_set rfl rfl ?_
  clear hS; intro w hS
  refine O.nil ?_
  refine k_seq ?_
  replace hf : Fr a 77 [] [(1, vI), (3, .pointer (some ⟨b_x1, 0, none⟩)), (6, .slice none 0 0), (7, vt0)] := hf.to ⟨rfl, rfl, rfl, rfl, trivial⟩
  refine W.seq ?_
  refine W.seq ?_
  -- region 3
  refine W.regionL (l := [0]) rfl ?_
  refine O.val hf rfl rfl rfl (RunV.assign rfl) ?_
  clear hf a; intro a hf
  refine O.nil ?_
  refine k_seq ?_
  refine W.block ?_
  -- loop 0
  refine W.loop (G := (Nat) × (Value) × (List Bool) × (List Int)) (fun g a w => match g with | (k, vt, ins, todo) => Fr a 77 [] [(1, vI), (3, .pointer (some ⟨b_x1, 0, none⟩)), (6, .slice none 0 0), (7, vt), (8, .int .i64 (k : Int))] ∧ St w0 w (fun b => vI.ownBlock = some b) [rdv 1 vP zs.length (ints zs)] [sl 3 1 vt todo.length (ints todo), pt b_x1 (.cells #[.int .i64 (fW : Int), .int .i64 (fH : Int), vP] 24 (0, 0)), sl 4 1 vI ins.length (bools ins)] ∧ (k ≤ todo.length) ∧ ((ins, todo) = Det.bfs fW fH ins0 first k) ∧ (Det.Inv (fW * fH) (ins, todo))) (fun g => match g with | (k, vt, ins, todo) => fW * fH - k) (0, vt0, (ins0.set first false), [(first : Int)]) ?_ ?_
  · refine ⟨hf.to ⟨rfl, rfl, rfl, (by first | rfl | exact congrArg some (congrArg (Value.int _) (by omega))), (by first | rfl | exact congrArg some (congrArg (Value.int _) (by omega))), trivial⟩, hS.eqM (by simp only [List.length_set]), ?_, ?_, ?_⟩
    · simp
    · rfl
    · exact Det.Inv.start hi0 hfi
  clear hf hS a
  rintro ⟨k, vt, ins, todo⟩ a w ⟨hf, hS, h1, h2, hI⟩
  refine W.seq ?_
  refine W.seq ?_
  -- region 4
  refine W.regionL (l := [0, 1, 2, 3]) rfl ?_
  refine O.val hf rfl rfl rfl (RunV.move rfl) ?_
  clear hf a; intro a hf
  refine O.val hf rfl rfl rfl (RunV.move rfl) ?_
  clear hf a; intro a hf
  refine O.val hf rfl rfl rfl (RunV.lenV (e := 3) (by simpa using T_elem_46) rfl (hS.slr (j := 0) rfl)) ?_
  clear hf a; intro a hf
  refine O.val (v := .bool (decide ((k : Int) < ((todo.length : Int) : Int)))) hf rfl rfl rfl (RunV.lss rfl rfl) ?_
  clear hf a; intro a hf
  refine O.nil ?_
  refine k_seq ?_
  replace hf : Fr a 77 [] [(1, vI), (3, .pointer (some ⟨b_x1, 0, none⟩)), (6, .slice none 0 0), (7, vt), (8, .int .i64 (k : Int)), (22, .bool (decide ((k : Int) < ((todo.length : Int) : Int))))] := hf.to ⟨rfl, rfl, rfl, rfl, rfl, rfl, trivial⟩
  refine W.ifdI hf rfl (fun hk => ?_) (fun hk => ?_)
  · refine W.skip ?_
    refine k_seq ?_
    refine W.seq ?_
    refine W.block ?_
    refine W.seq ?_
    -- region 6, which draws its order: quiet up to operation 5
    refine W.drawM (l₂ := [5, 6]) (fun w => St w0 w (fun b => vI.ownBlock = some b) [rdv 1 vP zs.length (ints zs)] [sl 3 1 vt todo.length (ints todo), pt b_x1 (.cells #[.int .i64 (fW : Int), .int .i64 (fH : Int), vP] 24 (0, 0)), sl 4 1 vI ins.length (bools ins)]) 5 P_mixed rfl rfl rfl (by kernel_rfl) hS.drew ?_
    clear hS
    refine OQ.val (v := .agg #[.int .i64 (fW : Int), .int .i64 (fH : Int), vP]) hf rfl (fun w hS => RunV.loadN (cs' := #[.int .i64 (fW : Int), .int .i64 (fH : Int), vP]) T_agg_24 T_size_24 rfl (hS.ptAt (i := 1) rfl) (Nat.le_of_ble_eq_true rfl) rfl) ?_; clear hf a; intro a hf
    refine OQ.val (v := vt) hf rfl (fun w hS => RunV.move rfl) ?_; clear hf a; intro a hf
    refine OQ.val (v := .int .i64 (k : Int)) hf rfl (fun w hS => RunV.move rfl) ?_; clear hf a; intro a hf
    refine OQ.val (v := ix vt k) hf rfl (fun w hS => RunV.ixV (j := k) (m := k) T_elem_46 T_size_3 rfl rfl (hS.slr (j := 0) rfl) rfl (by omega) (Nat.mul_one _)) ?_; clear hf a; intro a hf
    refine OQ.val (v := .int .i64 (todo.getD k 0)) hf rfl (fun w hS => RunV.ld1 T_agg_3 rfl (hS.slr (j := 0) rfl) (ints_get (by omega))) ?_; clear hf a; intro a hf
    refine OQ.nil ?_; intro w hS
    have hgk := hI.2.2 _ (Det.getD_mem (l := todo) (j := k) (by omega))
    rw [show todo.getD k 0 = (((todo.getD k 0).toNat : Nat) : Int) from by omega] at hf
    refine O.callR hf rfl rfl rfl (RunE.call (av := #[.agg #[.int .i64 (fW : Int), .int .i64 (fH : Int), vP], .int .i64 ((todo.getD k 0).toNat : Int), .bool false]) C_ok_25 rfl rfl rfl) (near11_spec fW fH (todo.getD k 0).toNat vP _ hW hH (by have := hI.2.2 _ (Det.getD_mem (l := todo) (j := k) (by omega)); omega)) ?_
    clear hf a
    rintro vn w4 hS1 a hf
    replace hf : Fr a _ _ ((30, vn) :: _) := hf
    replace hS := (hS.call hS1).eqM (N := [sl 3 1 vn ((Det.nb fW fH (todo.getD k 0).toNat).length) (ints (Det.nb fW fH (todo.getD k 0).toNat)), sl 3 1 vt todo.length (ints todo), pt b_x1 (.cells #[.int .i64 (fW : Int), .int .i64 (fH : Int), vP] 24 (0, 0)), sl 4 1 vI ins.length (bools ins)]) rfl
    clear hS1
    refine O.val hf rfl rfl rfl (RunV.assign rfl) ?_
    clear hf a; intro a hf
    refine O.nil ?_
    have hlr : ∀ t ∈ Det.nb fW fH (todo.getD k 0).toNat, 0 ≤ t ∧ t < ((fW * fH : Nat) : Int) := fun t ht => Det.nb_mem ht
    have hstep := fun (h : k < todo.length) => Det.bfs_step (s := (ins, todo)) h2 h
    dsimp only at hstep
    have hlm := (hS.slAt (j := 0) rfl).nle; unfold maxLen at hlm
    generalize hl : Det.nb fW fH (todo.getD k 0).toNat = l at *
    refine k_seq ?_
    replace hf : Fr a 77 [] [(1, vI), (3, .pointer (some ⟨b_x1, 0, none⟩)), (6, .slice none 0 0), (7, vt), (8, .int .i64 (k : Int)), (9, vn)] := hf.to ⟨rfl, rfl, rfl, rfl, rfl, rfl, trivial⟩
    refine W.seq ?_
    -- region 7
    refine W.regionL (l := [0]) rfl ?_
    refine O.val hf rfl rfl rfl (RunV.assign rfl) ?_
    clear hf a; intro a hf
    refine O.nil ?_
    refine k_seq ?_
    refine W.block ?_
    -- loop 1
    refine W.loop (G := (Nat) × (Value) × (List Bool) × (List Int)) (fun g a w => match g with | (j, vt2, ins2, todo2) => Fr a 77 [] [(1, vI), (3, .pointer (some ⟨b_x1, 0, none⟩)), (6, .slice none 0 0), (7, vt2), (8, .int .i64 (k : Int)), (9, vn), (10, .int .i64 (j : Int))] ∧ St w0 w (fun b => vI.ownBlock = some b) [rdv 1 vP zs.length (ints zs)] [sl 3 1 vn l.length (ints l), sl 3 1 vt2 todo2.length (ints todo2), pt b_x1 (.cells #[.int .i64 (fW : Int), .int .i64 (fH : Int), vP] 24 (0, 0)), sl 4 1 vI ins2.length (bools ins2)] ∧ (j ≤ l.length) ∧ ((ins2, todo2) = Det.visitN (ins, todo) l j) ∧ (Det.Inv (fW * fH) (ins2, todo2)) ∧ (k + 1 ≤ todo2.length)) (fun g => match g with | (j, vt2, ins2, todo2) => l.length - j) (0, vt, ins, todo) ?_ ?_
    · refine ⟨hf.to ⟨rfl, rfl, rfl, (by first | rfl | exact congrArg some (congrArg (Value.int _) (by omega))), rfl, rfl, (by first | rfl | exact congrArg some (congrArg (Value.int _) (by omega))), trivial⟩, hS, ?_, ?_, ?_, ?_⟩
      · omega
      · rfl
      · exact hI
      · omega
    clear hf hS a
    rintro ⟨j, vt2, ins2, todo2⟩ a w ⟨hf, hS, h4, h5, hI2, hlen2⟩
    refine W.seq ?_
    refine W.seq ?_
    -- region 8
    refine W.regionL (l := [0, 1, 2, 3]) rfl ?_
    refine O.val hf rfl rfl rfl (RunV.move rfl) ?_
    clear hf a; intro a hf
    refine O.val hf rfl rfl rfl (RunV.move rfl) ?_
    clear hf a; intro a hf
    refine O.val hf rfl rfl rfl (RunV.lenV (e := 3) (by simpa using T_elem_46) rfl (hS.slr (j := 0) rfl)) ?_
    clear hf a; intro a hf
    refine O.val (v := .bool (decide ((j : Int) < ((l.length : Int) : Int)))) hf rfl rfl rfl (RunV.lss rfl rfl) ?_
    clear hf a; intro a hf
    refine O.nil ?_
    refine k_seq ?_
    replace hf : Fr a 77 [] [(1, vI), (3, .pointer (some ⟨b_x1, 0, none⟩)), (6, .slice none 0 0), (7, vt2), (8, .int .i64 (k : Int)), (9, vn), (10, .int .i64 (j : Int)), (34, .bool (decide ((j : Int) < ((l.length : Int) : Int))))] := hf.to ⟨rfl, rfl, rfl, rfl, rfl, rfl, rfl, rfl, trivial⟩
    refine W.ifdI hf rfl (fun hj => ?_) (fun hj => ?_)
    · refine W.skip ?_
      refine k_seq ?_
      refine W.seq ?_
      refine W.block ?_
      refine W.seq ?_
      -- region 10
      refine W.regionL (l := [0, 1, 2, 3, 4, 5, 6]) rfl ?_
      have hr := hlr _ (Det.getD_mem (l := l) (j := j) (by omega))
      have hi2 := hI2.1; dsimp only at hi2
      refine O.val hf rfl rfl rfl (RunV.move rfl) ?_
      clear hf a; intro a hf
      refine O.val hf rfl rfl rfl (RunV.move rfl) ?_
      clear hf a; intro a hf
      refine O.val hf rfl rfl rfl (RunV.move rfl) ?_
      clear hf a; intro a hf
      refine O.val hf rfl rfl rfl (RunV.ixV (j := j) (m := j) T_elem_46 T_size_3 rfl rfl (hS.slr (j := 0) rfl) rfl (by omega) (Nat.mul_one _)) ?_
      clear hf a; intro a hf
      refine O.val hf rfl rfl rfl (RunV.ld1 T_agg_3 rfl (hS.slr (j := 0) rfl) (ints_get (by omega))) ?_
      clear hf a; intro a hf
      refine O.val hf rfl rfl rfl (RunV.ixV (j := (l.getD j 0).toNat) (m := (l.getD j 0).toNat) T_elem_25 T_size_4 rfl rfl (hS.slr (j := 3) rfl) (by have := hlr _ (Det.getD_mem (l := l) (j := j) (by omega)); omega) (by have := hlr _ (Det.getD_mem (l := l) (j := j) (by omega)); have := hI2.1; dsimp only at this; omega) (Nat.mul_one _)) ?_
      clear hf a; intro a hf
      refine O.val hf rfl rfl rfl (RunV.ld1 T_agg_4 rfl (hS.slr (j := 3) rfl) (bools_get (by omega))) ?_
      clear hf a; intro a hf
      refine O.nil ?_
      refine k_seq ?_
      replace hf : Fr a 77 [] [(1, vI), (3, .pointer (some ⟨b_x1, 0, none⟩)), (6, .slice none 0 0), (7, vt2), (8, .int .i64 (k : Int)), (9, vn), (10, .int .i64 (j : Int)), (43, .bool (ins2.getD ((l.getD j 0).toNat) false))] := hf.to ⟨rfl, rfl, rfl, rfl, rfl, rfl, rfl, rfl, trivial⟩
      refine W.if_ hf rfl (fun hc => ?_) (fun hc => ?_)
      · have hcb := hc
        try simp only [Bool.and_eq_true, Bool.or_eq_true, Bool.and_eq_false_iff, Bool.or_eq_false_iff, decide_eq_true_eq, decide_eq_false_iff_not, Bool.not_eq_true', Bool.not_eq_false', Bool.not_eq_true, Bool.not_eq_false, ne_eq] at hc
        refine W.seq ?_
        -- region 11
        refine W.regionL (l := [0, 1, 2, 3, 4, 5, 6]) rfl ?_
        refine O.val hf rfl rfl rfl (RunV.move rfl) ?_
        clear hf a; intro a hf
        refine O.val hf rfl rfl rfl (RunV.move rfl) ?_
        clear hf a; intro a hf
        refine O.val hf rfl rfl rfl (RunV.move rfl) ?_
        clear hf a; intro a hf
        refine O.val hf rfl rfl rfl (RunV.ixV (j := j) (m := j) T_elem_46 T_size_3 rfl rfl (hS.slr (j := 0) rfl) rfl (by omega) (Nat.mul_one _)) ?_
        clear hf a; intro a hf
        refine O.val hf rfl rfl rfl (RunV.ld1 T_agg_3 rfl (hS.slr (j := 0) rfl) (ints_get (by omega))) ?_
        clear hf a; intro a hf
        refine O.val hf rfl rfl rfl (RunV.ixV (j := (l.getD j 0).toNat) (m := (l.getD j 0).toNat) T_elem_25 T_size_4 rfl rfl (hS.slr (j := 3) rfl) (by omega) (by omega) (Nat.mul_one _)) ?_
        clear hf a; intro a hf
        refine O.storeSl (j := 3) (m := (l.getD j 0).toNat) (xs' := bools (ins2.set ((l.getD j 0).toNat) false)) (M' := [sl 3 1 vn l.length (ints l), sl 3 1 vt2 todo2.length (ints todo2), pt b_x1 (.cells #[.int .i64 (fW : Int), .int .i64 (fH : Int), vP] 24 (0, 0)), sl 4 1 vI ins2.length (bools (ins2.set ((l.getD j 0).toNat) false))]) hf hS rfl rfl rfl T_size_4 rfl rfl rfl (by simp only [bools_len]; omega) bools_set rfl rfl ?_
        clear hS; intro w hS
        refine O.nil ?_
        refine k_seq ?_
        replace hf : Fr a 77 [] [(1, vI), (3, .pointer (some ⟨b_x1, 0, none⟩)), (6, .slice none 0 0), (7, vt2), (8, .int .i64 (k : Int)), (9, vn), (10, .int .i64 (j : Int))] := hf.to ⟨rfl, rfl, rfl, rfl, rfl, rfl, rfl, trivial⟩
        -- region 12
        refine W.regionL (l := [0, 1, 2, 3, 4, 5, 6, 7]) rfl ?_
        have hi3 := hI2.2.1; dsimp only at hi3
        refine O.val hf rfl rfl rfl (RunV.move rfl) ?_
        clear hf a; intro a hf
        refine O.val hf rfl rfl rfl (RunV.move rfl) ?_
        clear hf a; intro a hf
        refine O.val hf rfl rfl rfl (RunV.move rfl) ?_
        clear hf a; intro a hf
        refine O.val hf rfl rfl rfl (RunV.ixV (j := j) (m := j) T_elem_46 T_size_3 rfl rfl (hS.slr (j := 0) rfl) rfl (by omega) (Nat.mul_one _)) ?_
        clear hf a; intro a hf
        refine O.val hf rfl rfl rfl (RunV.ld1 T_agg_3 rfl (hS.slr (j := 0) rfl) (ints_get (by omega))) ?_
        clear hf a; intro a hf
        refine O.buildSlice (cs' := #[.int .i64 (l.getD j 0)]) (zs := #[.int .i64 0]) hf hS rfl rfl T_elem_46 T_size_3 T_zero_3 rfl rfl rfl rfl rfl ?_
        clear hf hS a; intro b_s7 w a hbb_s7 hS hf
        refine O.append1 (j := 2) (jj := 0) hf hS rfl rfl T_elem_46 T_size_3 T_bytes_3 T_zero_3 rfl rfl rfl rfl rfl rfl rfl rfl (by unfold maxLen; omega) (by omega) ?_
        clear hf hS a; intro v8 w a hS hf
        replace hS := hS.eqM (N := [pt b_s7 (.cells #[.int .i64 (l.getD j 0)] 3 (0, 0)), sl 3 1 vn l.length (ints l), sl 3 1 v8 (todo2.length + 1) (ints todo2 ++ [.int .i64 (l.getD j 0)]), pt b_x1 (.cells #[.int .i64 (fW : Int), .int .i64 (fH : Int), vP] 24 (0, 0)), sl 4 1 vI ins2.length (bools (ins2.set ((l.getD j 0).toNat) false))]) rfl
        replace hS := hS.eqM (N := [pt b_s7 (.cells #[.int .i64 (l.getD j 0)] 3 (0, 0)), sl 3 1 vn l.length (ints l), sl 3 1 v8 ((todo2 ++ [l.getD j 0]).length) (ints (todo2 ++ [l.getD j 0])), pt b_x1 (.cells #[.int .i64 (fW : Int), .int .i64 (fH : Int), vP] 24 (0, 0)), sl 4 1 vI ins2.length (bools (ins2.set ((l.getD j 0).toNat) false))]) (by rw [sl_ints])
        refine O.val hf rfl rfl rfl (RunV.assign rfl) ?_
        clear hf a; intro a hf
        refine O.nil ?_
        refine k_blk_normal ?_
        refine k_seq ?_
        replace hf : Fr a 77 [] [(1, vI), (3, .pointer (some ⟨b_x1, 0, none⟩)), (6, .slice none 0 0), (7, v8), (8, .int .i64 (k : Int)), (9, vn), (10, .int .i64 (j : Int))] := hf.to ⟨rfl, rfl, rfl, rfl, rfl, rfl, rfl, trivial⟩
        -- region 9
        refine W.regionL (l := [0, 1, 2]) rfl ?_
        refine O.val hf rfl rfl rfl (RunV.move rfl) ?_
        clear hf a; intro a hf
        refine O.val hf rfl rfl rfl (RunV.addI rfl rfl (by omega)) ?_
        clear hf a; intro a hf
        refine O.val hf rfl rfl rfl (RunV.assign rfl) ?_
        clear hf a; intro a hf
        refine O.nil ?_
        replace hS := hS.sub (N := [sl 3 1 vn l.length (ints l), sl 3 1 v8 ((todo2 ++ [l.getD j 0]).length) (ints (todo2 ++ [l.getD j 0])), pt b_x1 (.cells #[.int .i64 (fW : Int), .int .i64 (fH : Int), vP] 24 (0, 0)), sl 4 1 vI ins2.length (bools (ins2.set ((l.getD j 0).toNat) false))]) (.cons _ (.cons_cons _ (.cons_cons _ (.cons_cons _ (.cons_cons _ .slnil)))))
        refine k_then ⟨(j + 1, v8, (ins2.set ((l.getD j 0).toNat) false), (todo2 ++ [l.getD j 0])), ⟨hf.to ⟨rfl, rfl, rfl, (by first | rfl | exact congrArg some (congrArg (Value.int _) (by omega))), rfl, rfl, (by first | rfl | exact congrArg some (congrArg (Value.int _) (by omega))), trivial⟩, ?_, ?_, ?_, ?_, ?_⟩, ?_⟩
        · exact hS.eqM (by simp only [List.length_set])
        · omega
        · exact Det.visitN_take h5 hcb
        · rw [Det.visitN_take h5 hcb]; exact Det.Inv.visitN hI hlr (j + 1) (by omega)
        · first | omega | (rw [List.length_append]; omega)
        · dsimp only; omega
      · have hcb := hc
        try simp only [Bool.and_eq_true, Bool.or_eq_true, Bool.and_eq_false_iff, Bool.or_eq_false_iff, decide_eq_true_eq, decide_eq_false_iff_not, Bool.not_eq_true', Bool.not_eq_false', Bool.not_eq_true, Bool.not_eq_false, ne_eq] at hc
        refine W.skip ?_
        refine k_blk_normal ?_
        refine k_seq ?_
        -- region 9
        refine W.regionL (l := [0, 1, 2]) rfl ?_
        refine O.val hf rfl rfl rfl (RunV.move rfl) ?_
        clear hf a; intro a hf
        refine O.val hf rfl rfl rfl (RunV.addI rfl rfl (by omega)) ?_
        clear hf a; intro a hf
        refine O.val hf rfl rfl rfl (RunV.assign rfl) ?_
        clear hf a; intro a hf
        refine O.nil ?_
        refine k_then ⟨(j + 1, vt2, ins2, todo2), ⟨hf.to ⟨rfl, rfl, rfl, (by first | rfl | exact congrArg some (congrArg (Value.int _) (by omega))), rfl, rfl, (by first | rfl | exact congrArg some (congrArg (Value.int _) (by omega))), trivial⟩, ?_, ?_, ?_, ?_, ?_⟩, ?_⟩
        · exact hS.eqM (by simp only [List.length_set])
        · omega
        · exact Det.visitN_skip h5 (by rw [hcb]; exact Bool.false_ne_true)
        · rw [Det.visitN_skip h5 (by rw [hcb]; exact Bool.false_ne_true)]; exact Det.Inv.visitN hI hlr (j + 1) (by omega)
        · first | omega | (rw [List.length_append]; omega)
        · dsimp only; omega
    · refine W.exit ?_
      refine k_then_exit ?_
      refine k_then_exit ?_
      refine k_blk ?_
      refine k_blk_normal ?_
      refine k_seq ?_
      -- region 5
      refine W.regionL (l := [0, 1, 2]) rfl ?_
      have hi4 := hI.2.1; dsimp only at hi4
      refine O.val hf rfl rfl rfl (RunV.move rfl) ?_
      clear hf a; intro a hf
      refine O.val hf rfl rfl rfl (RunV.addI rfl rfl (by omega)) ?_
      clear hf a; intro a hf
      refine O.val hf rfl rfl rfl (RunV.assign rfl) ?_
      clear hf a; intro a hf
      refine O.nil ?_
      replace hS := hS.sub (N := [sl 3 1 vt2 todo2.length (ints todo2), pt b_x1 (.cells #[.int .i64 (fW : Int), .int .i64 (fH : Int), vP] 24 (0, 0)), sl 4 1 vI ins2.length (bools ins2)]) (.cons _ (.cons_cons _ (.cons_cons _ (.cons_cons _ .slnil))))
      refine k_then ⟨(k + 1, vt2, ins2, todo2), ⟨hf.to ⟨rfl, rfl, rfl, (by first | rfl | exact congrArg some (congrArg (Value.int _) (by omega))), (by first | rfl | exact congrArg some (congrArg (Value.int _) (by omega))), trivial⟩, ?_, ?_, ?_, ?_⟩, ?_⟩
      · exact hS.eqM rfl
      · have := hlen2; omega
      · rw [← hstep (by omega), h5]; congr 1; omega
      · exact hI2
      · dsimp only; have := hI.2.1; dsimp only at this; omega
  · refine W.exit ?_
    refine k_then_exit ?_
    refine k_then_exit ?_
    refine k_blk ?_
    refine k_seq ?_
    replace hf : Fr a 77 [] [(3, .pointer (some ⟨b_x1, 0, none⟩)), (6, .slice none 0 0), (7, vt)] := hf.to ⟨rfl, rfl, rfl, trivial⟩
    refine W.seq ?_
    -- region 13
    refine W.regionL (l := [0, 1, 2, 3, 4, 5]) rfl ?_
    refine O.val hf rfl rfl rfl (RunV.field T_field_24_2 rfl rfl) ?_
    clear hf a; intro a hf
    refine O.val hf rfl rfl rfl (RunV.load1 T_agg_22 rfl (hS.ptAt (i := 1) rfl) rfl) ?_
    clear hf a; intro a hf
    refine O.val hf rfl rfl rfl (RunV.lenV (e := 2) (by simpa using T_elem_22) rfl (hS.rdAt (j := 0) rfl)) ?_
    clear hf a; intro a hf
    refine O.val hf rfl rfl rfl (RunV.move rfl) ?_
    clear hf a; intro a hf
    rw [show ((zs.length : Nat) : Int) = ((fW * fH : Nat) : Int) from by rw [hn]] at hf
    refine O.callR hf rfl rfl rfl (RunE.call (av := #[.int .i64 ((fW * fH : Nat) : Int), vt]) C_ok_26 rfl rfl rfl) (marks_spec (fW * fH) vt todo _ (hS.slr (j := 0) rfl) (by omega) (fun i hi => hI.2.2 _ (Det.getD_mem hi))) ?_
    clear hf a
    rintro vm w9 hS1 a hf
    replace hf : Fr a _ _ ((61, vm) :: _) := hf
    replace hS := (hS.call hS1).eqM (N := [sl 4 1 vm ((Det.marks (fW * fH) todo todo.length).length) (bools (Det.marks (fW * fH) todo todo.length)), sl 3 1 vt todo.length (ints todo), pt b_x1 (.cells #[.int .i64 (fW : Int), .int .i64 (fH : Int), vP] 24 (0, 0)), sl 4 1 vI ins.length (bools ins)]) rfl
    clear hS1
    refine O.val hf rfl rfl rfl (RunV.assign rfl) ?_
    clear hf a; intro a hf
    refine O.nil ?_
    have hml := Det.marks_len (fW * fH) todo todo.length
    generalize hmk : Det.marks (fW * fH) todo todo.length = mk at *
    refine k_seq ?_
    replace hf : Fr a 77 [] [(6, .slice none 0 0), (11, vm)] := hf.to ⟨rfl, rfl, trivial⟩
    refine W.seq ?_
    -- region 14
    refine W.regionL (l := [0]) rfl ?_
    refine O.val hf rfl rfl rfl (RunV.assign rfl) ?_
    clear hf a; intro a hf
    refine O.nil ?_
    refine k_seq ?_
    refine W.seq ?_
    refine W.seq ?_
    -- region 15
    refine W.regionL (l := [0]) rfl ?_
    refine O.val hf rfl rfl rfl (RunV.assign rfl) ?_
    clear hf a; intro a hf
    refine O.nil ?_
    refine k_seq ?_
    refine W.block ?_
    replace hS : St w0 _ (fun b => vI.ownBlock = some b) [rdv 1 vP zs.length (ints zs)] [sl 3 1 (.slice none 0 0) (([] : List Int).length) (ints []), sl 4 1 vm mk.length (bools mk), sl 3 1 vt todo.length (ints todo), pt b_x1 (.cells #[.int .i64 (fW : Int), .int .i64 (fH : Int), vP] 24 (0, 0)), sl 4 1 vI ins.length (bools ins)] := hS.nilSl 3 1
    -- loop 2
    refine W.loop (G := (Nat) × (Value) × (List Int)) (fun g a w => match g with | (q, vo, out) => Fr a 77 [] [(6, .slice none 0 0), (11, vm), (12, vo), (13, .int .i64 (q : Int))] ∧ St w0 w (fun b => vI.ownBlock = some b) [rdv 1 vP zs.length (ints zs)] [sl 3 1 vo out.length (ints out), sl 4 1 vm mk.length (bools mk), sl 3 1 vt todo.length (ints todo), pt b_x1 (.cells #[.int .i64 (fW : Int), .int .i64 (fH : Int), vP] 24 (0, 0)), sl 4 1 vI ins.length (bools ins)] ∧ (q ≤ fW * fH) ∧ (out = Det.asc mk q) ∧ (out.length ≤ q)) (fun g => match g with | (q, vo, out) => fW * fH - q) (0, (.slice none 0 0), []) ?_ ?_
    · refine ⟨hf.to ⟨rfl, rfl, (by first | rfl | exact congrArg some (congrArg (Value.int _) (by omega))), (by first | rfl | exact congrArg some (congrArg (Value.int _) (by omega))), trivial⟩, hS, ?_, ?_, ?_⟩
      · omega
      · rfl
      · simp
    clear hf hS a
    rintro ⟨q, vo, out⟩ a w ⟨hf, hS, h7, h8, h9⟩
    refine W.seq ?_
    refine W.seq ?_
    -- region 16
    refine W.regionL (l := [0, 1, 2, 3]) rfl ?_
    refine O.val hf rfl rfl rfl (RunV.move rfl) ?_
    clear hf a; intro a hf
    refine O.val hf rfl rfl rfl (RunV.move rfl) ?_
    clear hf a; intro a hf
    refine O.val hf rfl rfl rfl (RunV.lenV (e := 4) (by simpa using T_elem_25) rfl (hS.slr (j := 1) rfl)) ?_
    clear hf a; intro a hf
    refine O.val (v := .bool (decide ((q : Int) < ((mk.length : Int) : Int)))) hf rfl rfl rfl (RunV.lss rfl rfl) ?_
    clear hf a; intro a hf
    refine O.nil ?_
    refine k_seq ?_
    replace hf : Fr a 77 [] [(6, .slice none 0 0), (11, vm), (12, vo), (13, .int .i64 (q : Int)), (65, .bool (decide ((q : Int) < ((mk.length : Int) : Int))))] := hf.to ⟨rfl, rfl, rfl, rfl, rfl, trivial⟩
    refine W.ifdI hf rfl (fun hq => ?_) (fun hq => ?_)
    · refine W.skip ?_
      refine k_seq ?_
      refine W.seq ?_
      refine W.block ?_
      refine W.seq ?_
      -- region 18
      refine W.regionL (l := [0, 1, 2, 3]) rfl ?_
      refine O.val hf rfl rfl rfl (RunV.move rfl) ?_
      clear hf a; intro a hf
      refine O.val hf rfl rfl rfl (RunV.move rfl) ?_
      clear hf a; intro a hf
      refine O.val hf rfl rfl rfl (RunV.ixV (j := q) (m := q) T_elem_25 T_size_4 rfl rfl (hS.slr (j := 1) rfl) rfl (by omega) (Nat.mul_one _)) ?_
      clear hf a; intro a hf
      refine O.val hf rfl rfl rfl (RunV.ld1 T_agg_4 rfl (hS.slr (j := 1) rfl) (bools_get (by omega))) ?_
      clear hf a; intro a hf
      refine O.nil ?_
      refine k_seq ?_
      replace hf : Fr a 77 [] [(6, .slice none 0 0), (11, vm), (12, vo), (13, .int .i64 (q : Int)), (71, .bool (mk.getD q false))] := hf.to ⟨rfl, rfl, rfl, rfl, rfl, trivial⟩
      refine W.if_ hf rfl (fun hm => ?_) (fun hm => ?_)
      · have hmb := hm
        try simp only [Bool.and_eq_true, Bool.or_eq_true, Bool.and_eq_false_iff, Bool.or_eq_false_iff, decide_eq_true_eq, decide_eq_false_iff_not, Bool.not_eq_true', Bool.not_eq_false', Bool.not_eq_true, Bool.not_eq_false, ne_eq] at hm
        -- region 19
        refine W.regionL (l := [0, 1, 2, 3, 4]) rfl ?_
        refine O.val hf rfl rfl rfl (RunV.move rfl) ?_
        clear hf a; intro a hf
        refine O.val hf rfl rfl rfl (RunV.move rfl) ?_
        clear hf a; intro a hf
        refine O.buildSlice (cs' := #[.int .i64 (q : Int)]) (zs := #[.int .i64 0]) hf hS rfl rfl T_elem_46 T_size_3 T_zero_3 rfl rfl rfl rfl rfl ?_
        clear hf hS a; intro b_s12 w a hbb_s12 hS hf
        refine O.append1 (j := 1) (jj := 0) hf hS rfl rfl T_elem_46 T_size_3 T_bytes_3 T_zero_3 rfl rfl rfl rfl rfl rfl rfl rfl (by unfold maxLen; omega) (by omega) ?_
        clear hf hS a; intro v13 w a hS hf
        replace hS := hS.eqM (N := [pt b_s12 (.cells #[.int .i64 (q : Int)] 3 (0, 0)), sl 3 1 v13 (out.length + 1) (ints out ++ [.int .i64 (q : Int)]), sl 4 1 vm mk.length (bools mk), sl 3 1 vt todo.length (ints todo), pt b_x1 (.cells #[.int .i64 (fW : Int), .int .i64 (fH : Int), vP] 24 (0, 0)), sl 4 1 vI ins.length (bools ins)]) rfl
        replace hS := hS.eqM (N := [pt b_s12 (.cells #[.int .i64 (q : Int)] 3 (0, 0)), sl 3 1 v13 ((out ++ [(q : Int)]).length) (ints (out ++ [(q : Int)])), sl 4 1 vm mk.length (bools mk), sl 3 1 vt todo.length (ints todo), pt b_x1 (.cells #[.int .i64 (fW : Int), .int .i64 (fH : Int), vP] 24 (0, 0)), sl 4 1 vI ins.length (bools ins)]) (by rw [sl_ints])
        refine O.val hf rfl rfl rfl (RunV.assign rfl) ?_
        clear hf a; intro a hf
        refine O.nil ?_
        refine k_blk_normal ?_
        refine k_seq ?_
        replace hf : Fr a 77 [] [(6, .slice none 0 0), (11, vm), (12, v13), (13, .int .i64 (q : Int))] := hf.to ⟨rfl, rfl, rfl, rfl, trivial⟩
        -- region 17
        refine W.regionL (l := [0, 1, 2]) rfl ?_
        refine O.val hf rfl rfl rfl (RunV.move rfl) ?_
        clear hf a; intro a hf
        refine O.val hf rfl rfl rfl (RunV.addI rfl rfl (by omega)) ?_
        clear hf a; intro a hf
        refine O.val hf rfl rfl rfl (RunV.assign rfl) ?_
        clear hf a; intro a hf
        refine O.nil ?_
        replace hS := hS.sub (N := [sl 3 1 v13 ((out ++ [(q : Int)]).length) (ints (out ++ [(q : Int)])), sl 4 1 vm mk.length (bools mk), sl 3 1 vt todo.length (ints todo), pt b_x1 (.cells #[.int .i64 (fW : Int), .int .i64 (fH : Int), vP] 24 (0, 0)), sl 4 1 vI ins.length (bools ins)]) (.cons _ (.cons_cons _ (.cons_cons _ (.cons_cons _ (.cons_cons _ (.cons_cons _ .slnil))))))
        refine k_then ⟨(q + 1, v13, (out ++ [(q : Int)])), ⟨hf.to ⟨rfl, rfl, (by first | rfl | exact congrArg some (congrArg (Value.int _) (by omega))), (by first | rfl | exact congrArg some (congrArg (Value.int _) (by omega))), trivial⟩, ?_, ?_, ?_, ?_⟩, ?_⟩
        · exact hS.eqM rfl
        · omega
        · rw [h8]; exact (Det.asc_take hmb).symm
        · first | omega | (rw [List.length_append, List.length_singleton]; omega)
        · dsimp only; omega
      · have hmb := hm
        try simp only [Bool.and_eq_true, Bool.or_eq_true, Bool.and_eq_false_iff, Bool.or_eq_false_iff, decide_eq_true_eq, decide_eq_false_iff_not, Bool.not_eq_true', Bool.not_eq_false', Bool.not_eq_true, Bool.not_eq_false, ne_eq] at hm
        refine W.skip ?_
        refine k_blk_normal ?_
        refine k_seq ?_
        -- region 17
        refine W.regionL (l := [0, 1, 2]) rfl ?_
        refine O.val hf rfl rfl rfl (RunV.move rfl) ?_
        clear hf a; intro a hf
        refine O.val hf rfl rfl rfl (RunV.addI rfl rfl (by omega)) ?_
        clear hf a; intro a hf
        refine O.val hf rfl rfl rfl (RunV.assign rfl) ?_
        clear hf a; intro a hf
        refine O.nil ?_
        refine k_then ⟨(q + 1, vo, out), ⟨hf.to ⟨rfl, rfl, (by first | rfl | exact congrArg some (congrArg (Value.int _) (by omega))), (by first | rfl | exact congrArg some (congrArg (Value.int _) (by omega))), trivial⟩, ?_, ?_, ?_, ?_⟩, ?_⟩
        · exact hS.eqM rfl
        · omega
        · rw [h8]; exact (Det.asc_skip (by rw [hmb]; exact Bool.false_ne_true)).symm
        · first | omega | (rw [List.length_append, List.length_singleton]; omega)
        · dsimp only; omega
    · refine W.exit ?_
      refine k_then_exit ?_
      refine k_then_exit ?_
      refine k_blk ?_
      refine k_seq ?_
      replace hf : Fr a 77 [] [(6, .slice none 0 0), (12, vo)] := hf.to ⟨rfl, rfl, trivial⟩
      refine W.seq ?_
      -- region 20
      refine W.regionL (l := [0, 1]) rfl ?_
      refine O.val hf rfl rfl rfl (RunV.move rfl) ?_
      clear hf a; intro a hf
      refine O.val hf rfl rfl rfl (RunV.assign rfl) ?_
      clear hf a; intro a hf
      refine O.nil ?_
      refine k_seq ?_
      replace hf : Fr a 77 [] [(6, vo)] := hf.to ⟨rfl, trivial⟩
      refine W.ret ?_
      refine post1 hf rfl (ResOK.tmp rfl) ?_
      obtain rfl : q = fW * fH := by omega
      obtain rfl : k = todo.length := by omega
      have hpart := Det.part_of h2 (by have := hI.2.1; dsimp only at this; omega)
      subst h8
      subst hmk
      refine ⟨vo, rfl, ?_⟩
      rw [hpart]
      exact (hS.sub (.cons_cons _ (.cons _ (.cons _ (.cons _ (.cons_cons _ .slnil)))))).noB

set_option maxHeartbeats 400000 in
set_option maxRecDepth 4000 in
theorem parts13_spec (fW fH : Nat) (least : Int) (vP vB : Value) (zs : List Int) (bs : List Bool) (w0 : World) (hW : 1 ≤ fW ∧ fW ≤ 100) (hH : 1 ≤ fH ∧ fH ≤ 100) (hn : zs.length = fW * fH) (hb : bs.length = fW * fH) (hP : rdOK (hp w0) 1 vP zs.length (ints zs)) (hB : rdOK (hp w0) 1 vB bs.length (bools bs)) :
    Ret Try.prog 14 #[.agg #[.int .i64 (fW : Int), .int .i64 (fH : Int), vP], vB, .int .i64 least] w0 (G := Value × List Value) (fun g => g.1) (fun g w => St w0 w noX [] [sl 46 1 g.1 g.2.length g.2, inn g.2 (Det.partsF fW fH least bs bs.length).2]) := by
  refine ret_of_W (lv := [.agg #[.int .i64 (fW : Int), .int .i64 (fH : Int), vP], vB, .int .i64 least]) Try.func14 rfl rfl rfl (fun a hf => ?_)
  replace hf : Fr a 36 [] [(0, .agg #[.int .i64 (fW : Int), .int .i64 (fH : Int), vP]), (1, vB), (2, .int .i64 least)] := hf
  have hS : St w0 w0 noX [rdv 1 vP zs.length (ints zs), rdv 1 vB bs.length (bools bs)] [] := ((St.refl w0).lend0 hB).lend0 hP
  have hN : fW * fH ≤ 10000 := Nat.mul_le_mul hW.2 hH.2
  refine W.seq ?_
  -- region 0
  refine W.regionL (l := [0, 1]) rfl ?_
  refine O.box (cs := #[.int .i64 (fW : Int), .int .i64 (fH : Int), vP]) hf hS rfl rfl rfl rfl ?_
  clear hf hS a; intro b_f1 w a hbb_f1 hS hf
  refine O.val hf rfl rfl rfl (RunV.assign rfl) ?_
  clear hf a; intro a hf
  refine O.nil ?_
  refine k_seq ?_
  replace hf : Fr a 36 [] [(1, vB), (2, .int .i64 least), (3, .pointer (some ⟨b_f1, 0, none⟩)), (6, .slice none 0 0)] := hf.to ⟨rfl, rfl, rfl, rfl, trivial⟩
  refine W.seq ?_
  -- region 1
  refine W.regionL (l := [0, 1, 2, 3]) rfl ?_
  refine O.buildSlice0 hf hS rfl rfl T_elem_25 T_size_4 rfl ?_
  clear hf hS a; intro b_s2 w a hbb_s2 hS hf
  replace hS : St w0 w noX [rdv 1 vP zs.length (ints zs), rdv 1 vB bs.length (bools bs)] [sl 4 1 (.slice (some ⟨b_s2, 0, none⟩) 0 0) (([] : List Bool).length) (bools []), pt b_f1 (.cells #[.int .i64 (fW : Int), .int .i64 (fH : Int), vP] 24 (0, 0))] := hS
  refine O.val hf rfl rfl rfl (RunV.move rfl) ?_
  clear hf a; intro a hf
  refine O.appendV (j := 0) hf hS rfl rfl T_elem_25 T_size_4 T_bytes_4 T_zero_4 rfl rfl rfl rfl rfl (hS.rdAt (j := 1) rfl) (oneCells_bools _) (by unfold maxLen; simp only [List.length_nil]; omega) (by simp only [List.length_nil]; omega) ?_
  clear hf hS a; intro v3 w a hS hf
  replace hS := hS.eqM (N := [sl 4 1 v3 (([] : List Bool).length + bs.length) (bools [] ++ bools bs), pt b_f1 (.cells #[.int .i64 (fW : Int), .int .i64 (fH : Int), vP] 24 (0, 0))]) rfl
  replace hS := hS.eqM (N := [sl 4 1 v3 bs.length (bools bs), pt b_f1 (.cells #[.int .i64 (fW : Int), .int .i64 (fH : Int), vP] 24 (0, 0))]) (by simp only [bools_app, List.length_append, List.length_nil, Nat.zero_add, List.nil_append, bools, List.map_nil])
  refine O.val hf rfl rfl rfl (RunV.assign rfl) ?_
  clear hf a; intro a hf
  refine O.nil ?_
  obtain ⟨vI, hvv⟩ : ∃ v, v = v3 := ⟨_, rfl⟩
  rw [← hvv] at hf hS; clear hvv
  refine k_seq ?_
  replace hf : Fr a 36 [] [(1, vI), (2, .int .i64 least), (3, .pointer (some ⟨b_f1, 0, none⟩)), (6, .slice none 0 0)] := hf.to ⟨rfl, rfl, rfl, rfl, trivial⟩
  refine W.seq ?_
  -- region 2
  refine W.regionL (l := [0]) rfl ?_
  refine O.val hf rfl rfl rfl (RunV.assign rfl) ?_
  clear hf a; intro a hf
  refine O.nil ?_
  refine k_seq ?_
  refine W.seq ?_
  refine W.seq ?_
  -- region 3
  refine W.regionL (l := [0]) rfl ?_
  refine O.val hf rfl rfl rfl (RunV.assign rfl) ?_
  clear hf a; intro a hf
  refine O.nil ?_
  refine k_seq ?_
  refine W.block ?_
  replace hS : St w0 _ noX [rdv 1 vP zs.length (ints zs), rdv 1 vB bs.length (bools bs)] [sl 46 1 (.slice none 0 0) (([] : List Value).length) ([] : List Value), sl 4 1 vI bs.length (bools bs), pt b_f1 (.cells #[.int .i64 (fW : Int), .int .i64 (fH : Int), vP] 24 (0, 0))] := hS.nilSl 46 1
  replace hS := hS.innNil
  -- loop 0
  refine W.loop (G := (Nat) × (Value) × (List Value) × (List Bool) × (List (List Int))) (fun g a w => match g with | (k, vo, vs, ins, xss) => Fr a 36 [] [(1, vI), (2, .int .i64 least), (3, .pointer (some ⟨b_f1, 0, none⟩)), (6, .slice none 0 0), (7, vo), (8, .int .i64 (k : Int))] ∧ St w0 w noX [rdv 1 vP zs.length (ints zs), rdv 1 vB bs.length (bools bs)] [inn vs xss, sl 46 1 vo vs.length vs, sl 4 1 vI ins.length (bools ins), pt b_f1 (.cells #[.int .i64 (fW : Int), .int .i64 (fH : Int), vP] 24 (0, 0))] ∧ (k ≤ bs.length) ∧ ((ins, xss) = Det.partsF fW fH least bs k) ∧ (ins.length = fW * fH) ∧ (vs.length ≤ k)) (fun g => match g with | (k, vo, vs, ins, xss) => bs.length - k) (0, (.slice none 0 0), [], bs, []) ?_ ?_
  · refine ⟨hf.to ⟨rfl, rfl, rfl, rfl, (by first | rfl | exact congrArg some (congrArg (Value.int _) (by omega))), (by first | rfl | exact congrArg some (congrArg (Value.int _) (by omega))), trivial⟩, hS, ?_, ?_, ?_, ?_⟩
    · omega
    · rfl
    · exact hb
    · simp
  clear hf hS a
  rintro ⟨k, vo, vs, ins, xss⟩ a w ⟨hf, hS, h1, h2, h3, h4⟩
  refine W.seq ?_
  refine W.seq ?_
  -- region 4
  refine W.regionL (l := [0, 1, 2, 3]) rfl ?_
  refine O.val hf rfl rfl rfl (RunV.move rfl) ?_
  clear hf a; intro a hf
  refine O.val hf rfl rfl rfl (RunV.move rfl) ?_
  clear hf a; intro a hf
  refine O.val hf rfl rfl rfl (RunV.lenV (e := 4) (by simpa using T_elem_25) rfl (hS.slr (j := 2) rfl)) ?_
  clear hf a; intro a hf
  refine O.val (v := .bool (decide ((k : Int) < ((ins.length : Int) : Int)))) hf rfl rfl rfl (RunV.lss rfl rfl) ?_
  clear hf a; intro a hf
  refine O.nil ?_
  refine k_seq ?_
  replace hf : Fr a 36 [] [(1, vI), (2, .int .i64 least), (3, .pointer (some ⟨b_f1, 0, none⟩)), (6, .slice none 0 0), (7, vo), (8, .int .i64 (k : Int)), (16, .bool (decide ((k : Int) < ((ins.length : Int) : Int))))] := hf.to ⟨rfl, rfl, rfl, rfl, rfl, rfl, rfl, trivial⟩
  refine W.ifdI hf rfl (fun hk => ?_) (fun hk => ?_)
  · refine W.skip ?_
    refine k_seq ?_
    refine W.seq ?_
    refine W.block ?_
    refine W.seq ?_
    -- region 6
    refine W.regionL (l := [0, 1, 2, 3]) rfl ?_
    refine O.val hf rfl rfl rfl (RunV.move rfl) ?_
    clear hf a; intro a hf
    refine O.val hf rfl rfl rfl (RunV.move rfl) ?_
    clear hf a; intro a hf
    refine O.val hf rfl rfl rfl (RunV.ixV (j := k) (m := k) T_elem_25 T_size_4 rfl rfl (hS.slr (j := 2) rfl) rfl (by omega) (Nat.mul_one _)) ?_
    clear hf a; intro a hf
    refine O.val hf rfl rfl rfl (RunV.ld1 T_agg_4 rfl (hS.slr (j := 2) rfl) (bools_get (by omega))) ?_
    clear hf a; intro a hf
    refine O.nil ?_
    refine k_seq ?_
    replace hf : Fr a 36 [] [(1, vI), (2, .int .i64 least), (3, .pointer (some ⟨b_f1, 0, none⟩)), (6, .slice none 0 0), (7, vo), (8, .int .i64 (k : Int)), (22, .bool (ins.getD k false))] := hf.to ⟨rfl, rfl, rfl, rfl, rfl, rfl, rfl, trivial⟩
    refine W.if_ hf rfl (fun hin => ?_) (fun hin => ?_)
    · have hinb := hin
      try simp only [Bool.and_eq_true, Bool.or_eq_true, Bool.and_eq_false_iff, Bool.or_eq_false_iff, decide_eq_true_eq, decide_eq_false_iff_not, Bool.not_eq_true', Bool.not_eq_false', Bool.not_eq_true, Bool.not_eq_false, ne_eq] at hin
      refine W.seq ?_
      -- region 7
      refine W.regionL (l := [0, 1, 2, 3, 4]) rfl ?_
      refine O.val hf rfl rfl rfl (RunV.loadN (cs' := #[.int .i64 (fW : Int), .int .i64 (fH : Int), vP]) T_agg_24 T_size_24 rfl (hS.ptAt (i := 3) rfl) (Nat.le_of_ble_eq_true rfl) rfl) ?_
      clear hf a; intro a hf
      refine O.val hf rfl rfl rfl (RunV.move rfl) ?_
      clear hf a; intro a hf
      refine O.val hf rfl rfl rfl (RunV.move rfl) ?_
      clear hf a; intro a hf
      refine O.callR hf rfl rfl rfl (RunE.call (av := #[.agg #[.int .i64 (fW : Int), .int .i64 (fH : Int), vP], vI, .int .i64 (k : Int)]) C_ok_20 rfl rfl rfl) (part13_spec fW fH k vP vI zs ins _ hW hH hn h3 (by omega) (hS.rdAt (j := 0) rfl) (hS.slAt (j := 2) rfl) (fun b g1 g2 => hS.apart (i := 2) (j := 0) rfl rfl b ⟨g1, g2⟩)) ?_
      clear hf a
      rintro vp w6 hS1 a hf
      replace hf : Fr a _ _ ((26, vp) :: _) := hf
      replace hS := (hS.callX1 hS1 (i := 2) rfl (fun _ h => h)).eqM (N := [sl 3 1 vp ((Det.part fW fH ins k).2.length) (ints (Det.part fW fH ins k).2), sl 4 1 vI ((Det.part fW fH ins k).1.length) (bools (Det.part fW fH ins k).1), inn vs xss, sl 46 1 vo vs.length vs, pt b_f1 (.cells #[.int .i64 (fW : Int), .int .i64 (fH : Int), vP] 24 (0, 0))]) rfl
      clear hS1
      refine O.val hf rfl rfl rfl (RunV.assign rfl) ?_
      clear hf a; intro a hf
      refine O.nil ?_
      refine k_seq ?_
      replace hf : Fr a 36 [] [(1, vI), (2, .int .i64 least), (3, .pointer (some ⟨b_f1, 0, none⟩)), (6, .slice none 0 0), (7, vo), (8, .int .i64 (k : Int)), (9, vp)] := hf.to ⟨rfl, rfl, rfl, rfl, rfl, rfl, rfl, trivial⟩
      refine W.seq ?_
      -- region 8
      refine W.regionL (l := [0, 1, 2, 3]) rfl ?_
      have hple : (Det.part fW fH ins k).2.length ≤ fW * fH := Det.part_le
      refine O.val hf rfl rfl rfl (RunV.move rfl) ?_
      clear hf a; intro a hf
      refine O.val hf rfl rfl rfl (RunV.lenV (e := 3) (by simpa using T_elem_46) rfl (hS.slr (j := 0) rfl)) ?_
      clear hf a; intro a hf
      refine O.val hf rfl rfl rfl (RunV.move rfl) ?_
      clear hf a; intro a hf
      refine O.val (v := .bool (decide (((Det.part fW fH ins k).2.length : Int) ≥ (least : Int)))) hf rfl rfl rfl (RunV.geq rfl rfl) ?_
      clear hf a; intro a hf
      refine O.nil ?_
      refine k_seq ?_
      replace hf : Fr a 36 [] [(1, vI), (2, .int .i64 least), (3, .pointer (some ⟨b_f1, 0, none⟩)), (6, .slice none 0 0), (7, vo), (8, .int .i64 (k : Int)), (9, vp), (30, .bool (decide (((Det.part fW fH ins k).2.length : Int) ≥ (least : Int))))] := hf.to ⟨rfl, rfl, rfl, rfl, rfl, rfl, rfl, rfl, trivial⟩
      refine W.ifdI hf rfl (fun hle => ?_) (fun hle => ?_)
      · -- region 9
        refine W.regionL (l := [0, 1, 2, 3, 4]) rfl ?_
        refine O.val hf rfl rfl rfl (RunV.move rfl) ?_
        clear hf a; intro a hf
        refine O.val hf rfl rfl rfl (RunV.move rfl) ?_
        clear hf a; intro a hf
        have hcl9 := rdOK.cells (hS.slr (j := 0) rfl)
        refine O.buildSlice (cs' := #[vp]) (zs := #[.slice none 0 0]) hf hS rfl rfl T_elem_28 T_size_46 T_zero_46 rfl rfl rfl rfl (by simp [Instr.fill, hcl9.1]) ?_
        clear hf hS a; intro b_s8 w a hbb_s8 hS hf
        have hcl11 := rdOK.cells (hS.slr (j := 1) rfl)
        refine O.append1 (j := 4) (jj := 0) hf hS rfl rfl T_elem_28 T_size_46 T_bytes_46 T_zero_46 rfl rfl rfl rfl rfl rfl rfl hcl11.2 (by unfold maxLen; omega) (by omega) ?_
        clear hf hS a; intro v10 w a hS hf
        replace hS := hS.eqM (N := [pt b_s8 (.cells #[vp] 46 (0, 0)), sl 3 1 vp ((Det.part fW fH ins k).2.length) (ints (Det.part fW fH ins k).2), sl 4 1 vI ((Det.part fW fH ins k).1.length) (bools (Det.part fW fH ins k).1), inn vs xss, sl 46 1 v10 (vs.length + 1) (vs ++ [vp]), pt b_f1 (.cells #[.int .i64 (fW : Int), .int .i64 (fH : Int), vP] 24 (0, 0))]) rfl
        replace hS := hS.eqM (N := [pt b_s8 (.cells #[vp] 46 (0, 0)), sl 3 1 vp ((Det.part fW fH ins k).2.length) (ints (Det.part fW fH ins k).2), sl 4 1 vI ((Det.part fW fH ins k).1.length) (bools (Det.part fW fH ins k).1), inn vs xss, sl 46 1 v10 ((vs ++ [vp]).length) (vs ++ [vp]), pt b_f1 (.cells #[.int .i64 (fW : Int), .int .i64 (fH : Int), vP] 24 (0, 0))]) (by rw [sl_vs])
        refine O.val hf rfl rfl rfl (RunV.assign rfl) ?_
        clear hf a; intro a hf
        refine O.nil ?_
        replace hS := hS.front (i := 3) (M' := [inn vs xss, pt b_s8 (.cells #[vp] 46 (0, 0)), sl 3 1 vp ((Det.part fW fH ins k).2.length) (ints (Det.part fW fH ins k).2), sl 4 1 vI ((Det.part fW fH ins k).1.length) (bools (Det.part fW fH ins k).1), sl 46 1 v10 ((vs ++ [vp]).length) (vs ++ [vp]), pt b_f1 (.cells #[.int .i64 (fW : Int), .int .i64 (fH : Int), vP] 24 (0, 0))]) rfl rfl
        replace hS := hS.front (i := 2) (M' := [sl 3 1 vp ((Det.part fW fH ins k).2.length) (ints (Det.part fW fH ins k).2), inn vs xss, pt b_s8 (.cells #[vp] 46 (0, 0)), sl 4 1 vI ((Det.part fW fH ins k).1.length) (bools (Det.part fW fH ins k).1), sl 46 1 v10 ((vs ++ [vp]).length) (vs ++ [vp]), pt b_f1 (.cells #[.int .i64 (fW : Int), .int .i64 (fH : Int), vP] 24 (0, 0))]) rfl rfl
        replace hS := hS.innAdd
        refine k_blk_normal ?_
        refine k_seq ?_
        replace hf : Fr a 36 [] [(1, vI), (2, .int .i64 least), (3, .pointer (some ⟨b_f1, 0, none⟩)), (6, .slice none 0 0), (7, v10), (8, .int .i64 (k : Int)), (9, vp)] := hf.to ⟨rfl, rfl, rfl, rfl, rfl, rfl, rfl, trivial⟩
        -- region 5
        refine W.regionL (l := [0, 1, 2]) rfl ?_
        refine O.val hf rfl rfl rfl (RunV.move rfl) ?_
        clear hf a; intro a hf
        refine O.val hf rfl rfl rfl (RunV.addI rfl rfl (by omega)) ?_
        clear hf a; intro a hf
        refine O.val hf rfl rfl rfl (RunV.assign rfl) ?_
        clear hf a; intro a hf
        refine O.nil ?_
        replace hS := hS.front (i := 4) (M' := [pt b_f1 (.cells #[.int .i64 (fW : Int), .int .i64 (fH : Int), vP] 24 (0, 0)), inn (vs ++ [vp]) (xss ++ [(Det.part fW fH ins k).2]), pt b_s8 (.cells #[vp] 46 (0, 0)), sl 4 1 vI ((Det.part fW fH ins k).1.length) (bools (Det.part fW fH ins k).1), sl 46 1 v10 ((vs ++ [vp]).length) (vs ++ [vp])]) rfl rfl
        replace hS := hS.front (i := 3) (M' := [sl 4 1 vI ((Det.part fW fH ins k).1.length) (bools (Det.part fW fH ins k).1), pt b_f1 (.cells #[.int .i64 (fW : Int), .int .i64 (fH : Int), vP] 24 (0, 0)), inn (vs ++ [vp]) (xss ++ [(Det.part fW fH ins k).2]), pt b_s8 (.cells #[vp] 46 (0, 0)), sl 46 1 v10 ((vs ++ [vp]).length) (vs ++ [vp])]) rfl rfl
        replace hS := hS.front (i := 4) (M' := [sl 46 1 v10 ((vs ++ [vp]).length) (vs ++ [vp]), sl 4 1 vI ((Det.part fW fH ins k).1.length) (bools (Det.part fW fH ins k).1), pt b_f1 (.cells #[.int .i64 (fW : Int), .int .i64 (fH : Int), vP] 24 (0, 0)), inn (vs ++ [vp]) (xss ++ [(Det.part fW fH ins k).2]), pt b_s8 (.cells #[vp] 46 (0, 0))]) rfl rfl
        replace hS := hS.front (i := 3) (M' := [inn (vs ++ [vp]) (xss ++ [(Det.part fW fH ins k).2]), sl 46 1 v10 ((vs ++ [vp]).length) (vs ++ [vp]), sl 4 1 vI ((Det.part fW fH ins k).1.length) (bools (Det.part fW fH ins k).1), pt b_f1 (.cells #[.int .i64 (fW : Int), .int .i64 (fH : Int), vP] 24 (0, 0)), pt b_s8 (.cells #[vp] 46 (0, 0))]) rfl rfl
        replace hS := hS.sub (N := [inn (vs ++ [vp]) (xss ++ [(Det.part fW fH ins k).2]), sl 46 1 v10 ((vs ++ [vp]).length) (vs ++ [vp]), sl 4 1 vI ((Det.part fW fH ins k).1.length) (bools (Det.part fW fH ins k).1), pt b_f1 (.cells #[.int .i64 (fW : Int), .int .i64 (fH : Int), vP] 24 (0, 0))]) (.cons_cons _ (.cons_cons _ (.cons_cons _ (.cons_cons _ (.cons _ .slnil)))))
        refine k_then ⟨(k + 1, v10, (vs ++ [vp]), ((Det.part fW fH ins k).1), (xss ++ [(Det.part fW fH ins k).2])), ⟨hf.to ⟨rfl, rfl, rfl, rfl, (by first | rfl | exact congrArg some (congrArg (Value.int _) (by omega))), (by first | rfl | exact congrArg some (congrArg (Value.int _) (by omega))), trivial⟩, ?_, ?_, ?_, ?_, ?_⟩, ?_⟩
        · exact hS.eqM rfl
        · omega
        · exact Det.partsF_take h2 hinb (by omega)
        · exact Det.part_len h3 (by omega)
        · simp only [List.length_append, List.length_singleton]; omega
        · dsimp only; omega
      · refine W.skip ?_
        refine k_blk_normal ?_
        refine k_seq ?_
        -- region 5
        refine W.regionL (l := [0, 1, 2]) rfl ?_
        refine O.val hf rfl rfl rfl (RunV.move rfl) ?_
        clear hf a; intro a hf
        refine O.val hf rfl rfl rfl (RunV.addI rfl rfl (by omega)) ?_
        clear hf a; intro a hf
        refine O.val hf rfl rfl rfl (RunV.assign rfl) ?_
        clear hf a; intro a hf
        refine O.nil ?_
        replace hS := hS.front (i := 4) (M' := [pt b_f1 (.cells #[.int .i64 (fW : Int), .int .i64 (fH : Int), vP] 24 (0, 0)), sl 3 1 vp ((Det.part fW fH ins k).2.length) (ints (Det.part fW fH ins k).2), sl 4 1 vI ((Det.part fW fH ins k).1.length) (bools (Det.part fW fH ins k).1), inn vs xss, sl 46 1 vo vs.length vs]) rfl rfl
        replace hS := hS.front (i := 2) (M' := [sl 4 1 vI ((Det.part fW fH ins k).1.length) (bools (Det.part fW fH ins k).1), pt b_f1 (.cells #[.int .i64 (fW : Int), .int .i64 (fH : Int), vP] 24 (0, 0)), sl 3 1 vp ((Det.part fW fH ins k).2.length) (ints (Det.part fW fH ins k).2), inn vs xss, sl 46 1 vo vs.length vs]) rfl rfl
        replace hS := hS.front (i := 4) (M' := [sl 46 1 vo vs.length vs, sl 4 1 vI ((Det.part fW fH ins k).1.length) (bools (Det.part fW fH ins k).1), pt b_f1 (.cells #[.int .i64 (fW : Int), .int .i64 (fH : Int), vP] 24 (0, 0)), sl 3 1 vp ((Det.part fW fH ins k).2.length) (ints (Det.part fW fH ins k).2), inn vs xss]) rfl rfl
        replace hS := hS.front (i := 4) (M' := [inn vs xss, sl 46 1 vo vs.length vs, sl 4 1 vI ((Det.part fW fH ins k).1.length) (bools (Det.part fW fH ins k).1), pt b_f1 (.cells #[.int .i64 (fW : Int), .int .i64 (fH : Int), vP] 24 (0, 0)), sl 3 1 vp ((Det.part fW fH ins k).2.length) (ints (Det.part fW fH ins k).2)]) rfl rfl
        replace hS := hS.sub (N := [inn vs xss, sl 46 1 vo vs.length vs, sl 4 1 vI ((Det.part fW fH ins k).1.length) (bools (Det.part fW fH ins k).1), pt b_f1 (.cells #[.int .i64 (fW : Int), .int .i64 (fH : Int), vP] 24 (0, 0))]) (.cons_cons _ (.cons_cons _ (.cons_cons _ (.cons_cons _ (.cons _ .slnil)))))
        refine k_then ⟨(k + 1, vo, vs, ((Det.part fW fH ins k).1), xss), ⟨hf.to ⟨rfl, rfl, rfl, rfl, (by first | rfl | exact congrArg some (congrArg (Value.int _) (by omega))), (by first | rfl | exact congrArg some (congrArg (Value.int _) (by omega))), trivial⟩, ?_, ?_, ?_, ?_, ?_⟩, ?_⟩
        · exact hS.eqM rfl
        · omega
        · exact Det.partsF_small h2 hinb (by omega)
        · exact Det.part_len h3 (by omega)
        · omega
        · dsimp only; omega
    · have hinb := hin
      try simp only [Bool.and_eq_true, Bool.or_eq_true, Bool.and_eq_false_iff, Bool.or_eq_false_iff, decide_eq_true_eq, decide_eq_false_iff_not, Bool.not_eq_true', Bool.not_eq_false', Bool.not_eq_true, Bool.not_eq_false, ne_eq] at hin
      refine W.skip ?_
      refine k_blk_normal ?_
      refine k_seq ?_
      -- region 5
      refine W.regionL (l := [0, 1, 2]) rfl ?_
      refine O.val hf rfl rfl rfl (RunV.move rfl) ?_
      clear hf a; intro a hf
      refine O.val hf rfl rfl rfl (RunV.addI rfl rfl (by omega)) ?_
      clear hf a; intro a hf
      refine O.val hf rfl rfl rfl (RunV.assign rfl) ?_
      clear hf a; intro a hf
      refine O.nil ?_
      refine k_then ⟨(k + 1, vo, vs, ins, xss), ⟨hf.to ⟨rfl, rfl, rfl, rfl, (by first | rfl | exact congrArg some (congrArg (Value.int _) (by omega))), (by first | rfl | exact congrArg some (congrArg (Value.int _) (by omega))), trivial⟩, ?_, ?_, ?_, ?_, ?_⟩, ?_⟩
      · exact hS.eqM rfl
      · omega
      · exact Det.partsF_skip h2 (by rw [hinb]; exact Bool.false_ne_true)
      · exact h3
      · omega
      · dsimp only; omega
  · refine W.exit ?_
    refine k_then_exit ?_
    refine k_then_exit ?_
    refine k_blk ?_
    refine k_seq ?_
    replace hf : Fr a 36 [] [(6, .slice none 0 0), (7, vo)] := hf.to ⟨rfl, rfl, trivial⟩
    refine W.seq ?_
    -- region 10
    refine W.regionL (l := [0, 1]) rfl ?_
    refine O.val hf rfl rfl rfl (RunV.move rfl) ?_
    clear hf a; intro a hf
    refine O.val hf rfl rfl rfl (RunV.assign rfl) ?_
    clear hf a; intro a hf
    refine O.nil ?_
    refine k_seq ?_
    replace hf : Fr a 36 [] [(6, vo)] := hf.to ⟨rfl, trivial⟩
    refine W.ret ?_
    refine post1 hf rfl (ResOK.tmp rfl) ?_
    replace hS := hS.front (i := 0) (M' := [inn vs xss, sl 46 1 vo vs.length vs, sl 4 1 vI ins.length (bools ins), pt b_f1 (.cells #[.int .i64 (fW : Int), .int .i64 (fH : Int), vP] 24 (0, 0))]) rfl rfl
    replace hS := hS.front (i := 1) (M' := [sl 46 1 vo vs.length vs, inn vs xss, sl 4 1 vI ins.length (bools ins), pt b_f1 (.cells #[.int .i64 (fW : Int), .int .i64 (fH : Int), vP] 24 (0, 0))]) rfl rfl
    obtain rfl : k = bs.length := by omega
    refine ⟨(vo, vs), rfl, ?_⟩
    rw [← h2]
    exact (hS.sub (.cons_cons _ (.cons_cons _ (.cons _ (.cons _ .slnil))))).noB

set_option maxHeartbeats 400000 in
set_option maxRecDepth 4000 in
theorem keys18_spec (bm : Nat) (w0 : World) :
    Ret Try.prog 18 #[.map (some bm)] w0 (G := Nat) (fun b => .func (.func 23) #[] #[.pointer (some ⟨b, 0, none⟩)]) (fun b w => St w0 w noX [] [pt b (.cells #[.map (some bm)] 40 (0, 0))]) := by
  refine ret_of_W (lv := [.map (some bm)]) Try.func18 rfl rfl rfl (fun a hf => ?_)
  replace hf : Fr a 4 [] [(0, .map (some bm))] := hf
  have hS : St w0 w0 noX [] [] := St.refl w0
  refine W.seq ?_
  -- region 0
  refine W.regionL (l := [0, 1]) rfl ?_
  refine O.box (cs := #[.map (some bm)]) hf hS rfl rfl rfl rfl ?_
  clear hf hS a; intro b_m1 w a hbb_m1 hS hf
  refine O.val hf rfl rfl rfl (RunV.assign rfl) ?_
  clear hf a; intro a hf
  refine O.nil ?_
  refine k_seq ?_
  replace hf : Fr a 4 [] [(1, .pointer (some ⟨b_m1, 0, none⟩)), (2, .nilFunc)] := hf.to ⟨rfl, rfl, trivial⟩
  refine W.seq ?_
  -- region 1
  refine W.regionL (l := [0, 1]) rfl ?_
  refine O.val (v := .func (.func 23) #[] #[.pointer (some ⟨b_m1, 0, none⟩)]) hf rfl rfl rfl (RunV.makeFunc rfl rfl rfl rfl) ?_
  clear hf a; intro a hf
  refine O.val hf rfl rfl rfl (RunV.assign rfl) ?_
  clear hf a; intro a hf
  refine O.nil ?_
  refine k_seq ?_
  replace hf : Fr a 4 [] [(2, .func (.func 23) #[] #[.pointer (some ⟨b_m1, 0, none⟩)])] := hf.to ⟨rfl, trivial⟩
  refine W.ret ?_
  refine post1 hf rfl (ResOK.tmp rfl) ?_
  exact ⟨b_m1, rfl, hS⟩

theorem sorted17_spec (b bm : Nat) (ins : List Bool) (w0 : World) (hb : w0.heap[b]? = some (.cells #[.map (some bm)] 40 (0, 0))) (hm : setOK (hp w0) bm ins) (hl : ins.length ≤ 10000) :
    Ret Try.prog 17 #[.func (.func 23) #[] #[.pointer (some ⟨b, 0, none⟩)]] w0 (G := Value) (fun v => v) (fun v w => St w0 w noX [] [sl 3 1 v (Det.asc ins ins.length).length (ints (Det.asc ins ins.length))]) := by
  obtain ⟨D, hown, hnd, hmem, hsz⟩ := set_owns (P := Try.prog) (k := 3) (e := 4) Try.underlying3 Try.underlying4 hm hl
  have hblt : b < w0.heap.size := (Array.getElem?_eq_some_iff.1 hb).1
  have hcell : w0.cell? ⟨b, 0, none⟩ = some (.map (some bm)) := by simp [World.cell?, hb]
  have hseq : SeqGives Fence.wide 2 Try.prog 23 #[.pointer (some ⟨b, 0, none⟩)] encZ (fun ss => ss.Perm (intKeys D)) (Maps.size D) w0 :=
    AnyZI.keys_gives (ρ := Try.keysA_ren) { Try.keysA with } Fence.wide _ trivial rfl (by omega) b bm 10000 D w0 hblt hcell hown
  have sorts : AnyZI.SortsIn Try.prog Try.sortedA_ren Fence.wide 4 := ⟨fun blk off cap ss W hH hblk hsz => callsIn_wide.2 (AnyM.slices_Sort_int Try.sortA blk off cap ss W hH hblk hsz), fun p cap W => callsIn_wide.2 (AnyM.slices_Sort_int_none Try.sortA p cap W)⟩
  have cS := AnyZI.sorted_in Try.sortedA Fence.wide 5 trivial trivial trivial trivial rfl (by omega) sorts (fun args w => callOK_enter C_ok_22 args w) 23 #[.pointer (some ⟨b, 0, none⟩)] trivial (fun args w => callOK_enter C_ok_23 args w) _ _ (by unfold maxLen; omega) (by omega) w0 hseq
  refine Calls.mono (callsIn_wide.1 cS) ?_
  rintro e w ⟨v, ss, rfl, hp, hrow, _, hbl⟩
  have e1 : ss.mergeSort (fun x y => decide (x ≤ y)) = Det.asc ins ins.length :=
    Det.srt_eq_asc (hp.symm.nodup hnd) (fun t => by rw [hp.mem_iff]; exact hmem t)
  have e2 : ss.length = (Det.asc ins ins.length).length := by rw [← e1, List.length_mergeSort]
  rw [e1, e2] at hrow
  exact ⟨v, rfl, ownsRow.st hbl hrow⟩

set_option maxHeartbeats 400000 in
set_option maxRecDepth 4000 in
theorem parts12_spec (fW fH bm : Nat) (least : Int) (vP : Value) (ins0 : List Bool) (w0 : World) (hW : 1 ≤ fW ∧ fW ≤ 100) (hH : 1 ≤ fH ∧ fH ≤ 100) (hi0 : ins0.length = fW * fH) (hm : setOK (hp w0) bm ins0) :
    Ret Try.prog 12 #[.agg #[.int .i64 (fW : Int), .int .i64 (fH : Int), vP], .map (some bm), .int .i64 least] w0 (G := Value × List Value) (fun g => g.1) (fun g w => St w0 w (fun k => k = bm) [] [sl 46 1 g.1 g.2.length g.2, inn g.2 (Det.partsF fW fH least ins0 ins0.length).2]) := by
  refine ret_of_W (lv := [.agg #[.int .i64 (fW : Int), .int .i64 (fH : Int), vP], .map (some bm), .int .i64 least]) Try.func12 rfl rfl rfl (fun a hf => ?_)
  replace hf : Fr a 37 [] [(0, .agg #[.int .i64 (fW : Int), .int .i64 (fH : Int), vP]), (1, .map (some bm)), (2, .int .i64 least)] := hf
  have hS : St w0 w0 (fun k => k = bm) [] [ms bm ins0] := St.ownMs hm
  have hN : fW * fH ≤ 10000 := Nat.mul_le_mul hW.2 hH.2
  refine W.seq ?_
  -- region 0
  refine W.regionL (l := [0, 1]) rfl ?_
  refine O.box (cs := #[.int .i64 (fW : Int), .int .i64 (fH : Int), vP]) hf hS rfl rfl rfl rfl ?_
  clear hf hS a; intro b_m1 w a hbb_m1 hS hf
  refine O.val hf rfl rfl rfl (RunV.assign rfl) ?_
  clear hf a; intro a hf
  refine O.nil ?_
  refine k_seq ?_
  replace hf : Fr a 37 [] [(1, .map (some bm)), (2, .int .i64 least), (3, .pointer (some ⟨b_m1, 0, none⟩)), (6, .slice none 0 0)] := hf.to ⟨rfl, rfl, rfl, rfl, trivial⟩
  refine W.seq ?_
  -- region 1
  refine W.regionL (l := [0]) rfl ?_
  refine O.val hf rfl rfl rfl (RunV.assign rfl) ?_
  clear hf a; intro a hf
  refine O.nil ?_
  refine k_seq ?_
  refine W.seq ?_
  refine W.seq ?_
  -- region 2
  refine W.regionL (l := [0, 1, 2, 3, 4]) rfl ?_
  refine O.val hf rfl rfl rfl (RunV.move rfl) ?_
  clear hf a; intro a hf
  refine O.callR hf rfl rfl rfl (RunE.call (av := #[.map (some bm)]) C_ok_18 rfl rfl rfl) (keys18_spec bm _) ?_
  clear hf a
  rintro bk w2 hS1 a hf
  replace hf : Fr a _ _ ((12, .func (.func 23) #[] #[.pointer (some ⟨bk, 0, none⟩)]) :: _) := hf
  replace hS := (hS.call hS1).eqM (N := [pt bk (.cells #[.map (some bm)] 40 (0, 0)), pt b_m1 (.cells #[.int .i64 (fW : Int), .int .i64 (fH : Int), vP] 42 (0, 0)), ms bm ins0]) rfl
  clear hS1
  refine O.callR hf rfl rfl rfl (RunE.call (av := #[.func (.func 23) #[] #[.pointer (some ⟨bk, 0, none⟩)]]) C_ok_17 rfl rfl rfl) (sorted17_spec bk bm ins0 _ (hS.ptAt (i := 0) rfl) (hS.msAt (j := 2) rfl) (by omega)) ?_
  clear hf a
  rintro vk w3 hS1 a hf
  replace hf : Fr a _ _ ((13, vk) :: _) := hf
  replace hS := (hS.call hS1).eqM (N := [sl 3 1 vk ((Det.asc ins0 ins0.length).length) (ints (Det.asc ins0 ins0.length)), pt bk (.cells #[.map (some bm)] 40 (0, 0)), pt b_m1 (.cells #[.int .i64 (fW : Int), .int .i64 (fH : Int), vP] 42 (0, 0)), ms bm ins0]) rfl
  clear hS1
  refine O.val hf rfl rfl rfl (RunV.lenV (e := 3) (by simpa using T_elem_46) rfl (hS.slr (j := 0) rfl)) ?_
  clear hf a; intro a hf
  refine O.val hf rfl rfl rfl (RunV.move rfl) ?_
  clear hf a; intro a hf
  refine O.nil ?_
  have hfin := Det.partsK_asc (W := fW) (H := fH) (least := least) (bs := ins0) ins0.length
  have hkr : ∀ t ∈ Det.asc ins0 ins0.length, ∃ q : Nat, t = (q : Int) ∧ q < fW * fH := fun t ht => by obtain ⟨i, h1, h2, _⟩ := Det.asc_mem.1 ht; exact ⟨i, h1, by omega⟩
  have hkl := Det.asc_len (bs := ins0) ins0.length
  generalize hks : Det.asc ins0 ins0.length = ks at *
  refine k_seq ?_
  replace hf : Fr a 37 [] [(1, .map (some bm)), (2, .int .i64 least), (3, .pointer (some ⟨b_m1, 0, none⟩)), (6, .slice none 0 0), (7, .slice none 0 0), (13, vk), (14, .int .i64 (ks.length : Int)), (15, .int .i64 0)] := hf.to ⟨rfl, rfl, rfl, rfl, rfl, rfl, rfl, rfl, trivial⟩
  refine W.block ?_
  replace hS : St w0 _ (fun k => k = bm) [] [sl 46 1 (.slice none 0 0) (([] : List Value).length) ([] : List Value), sl 3 1 vk ks.length (ints ks), pt bk (.cells #[.map (some bm)] 40 (0, 0)), pt b_m1 (.cells #[.int .i64 (fW : Int), .int .i64 (fH : Int), vP] 42 (0, 0)), ms bm ins0] := hS.nilSl 46 1
  replace hS := hS.innNil
  -- loop 0
  refine W.loop (G := (Nat) × (Value) × (List Value) × (List Bool) × (List (List Int))) (fun g a w => match g with | (j, vo, vs, ins, xss) => Fr a 37 [] [(1, .map (some bm)), (2, .int .i64 least), (3, .pointer (some ⟨b_m1, 0, none⟩)), (6, .slice none 0 0), (7, vo), (13, vk), (14, .int .i64 (ks.length : Int)), (15, .int .i64 (j : Int))] ∧ St w0 w (fun k => k = bm) [] [inn vs xss, sl 46 1 vo vs.length vs, sl 3 1 vk ks.length (ints ks), pt bk (.cells #[.map (some bm)] 40 (0, 0)), pt b_m1 (.cells #[.int .i64 (fW : Int), .int .i64 (fH : Int), vP] 42 (0, 0)), ms bm ins] ∧ (j ≤ ks.length) ∧ ((ins, xss) = Det.partsK fW fH least ins0 ks j) ∧ (ins.length = fW * fH) ∧ (vs.length ≤ j)) (fun g => match g with | (j, vo, vs, ins, xss) => ks.length - j) (0, (.slice none 0 0), [], ins0, []) ?_ ?_
  · refine ⟨hf.to ⟨rfl, rfl, rfl, rfl, (by first | rfl | exact congrArg some (congrArg (Value.int _) (by omega))), rfl, rfl, (by first | rfl | exact congrArg some (congrArg (Value.int _) (by omega))), trivial⟩, hS, ?_, ?_, ?_, ?_⟩
    · omega
    · rfl
    · exact hi0
    · simp
  clear hf hS a
  rintro ⟨j, vo, vs, ins, xss⟩ a w ⟨hf, hS, h1, h2, h3, h4⟩
  refine W.seq ?_
  -- region 3
  refine W.regionL (l := [0]) rfl ?_
  refine O.val (v := .bool (decide ((j : Int) < ((ks.length : Int) : Int)))) hf rfl rfl rfl (RunV.lss rfl rfl) ?_
  clear hf a; intro a hf
  refine O.nil ?_
  refine k_seq ?_
  refine W.seq ?_
  refine W.ifdI hf rfl (fun hk => ?_) (fun hk => ?_)
  · refine W.skip ?_
    refine k_seq ?_
    refine W.seq ?_
    refine W.block ?_
    refine W.seq ?_
    -- region 4
    refine W.regionL (l := [0, 1, 2]) rfl ?_
    refine O.val hf rfl rfl rfl (RunV.ixV (j := j) (m := j) T_elem_46 T_size_3 rfl rfl (hS.slr (j := 2) rfl) rfl (by omega) (Nat.mul_one _)) ?_
    clear hf a; intro a hf
    refine O.val hf rfl rfl rfl (RunV.ld1 T_agg_3 rfl (hS.slr (j := 2) rfl) (ints_get (by omega))) ?_
    clear hf a; intro a hf
    refine O.val hf rfl rfl rfl (RunV.assign rfl) ?_
    clear hf a; intro a hf
    refine O.nil ?_
    obtain ⟨q, hq, hqn⟩ := hkr _ (Det.getD_mem (l := ks) (j := j) (by omega))
    rw [hq] at hf
    refine k_seq ?_
    replace hf : Fr a 37 [] [(1, .map (some bm)), (2, .int .i64 least), (3, .pointer (some ⟨b_m1, 0, none⟩)), (6, .slice none 0 0), (7, vo), (9, .int .i64 (q : Int)), (13, vk), (14, .int .i64 (ks.length : Int)), (15, .int .i64 (j : Int))] := hf.to ⟨rfl, rfl, rfl, rfl, rfl, rfl, rfl, rfl, rfl, trivial⟩
    refine W.seq ?_
    refine W.seq ?_
    -- region 5
    refine W.regionL (l := [0, 1, 2, 3]) rfl ?_
    refine O.val hf rfl rfl rfl (RunV.move rfl) ?_
    clear hf a; intro a hf
    refine O.val hf rfl rfl rfl (RunV.move rfl) ?_
    clear hf a; intro a hf
    refine O.val hf rfl rfl rfl (RunV.lookupS T_set_40 rfl rfl (hS.msAt (j := 5) rfl)) ?_
    clear hf a; intro a hf
    refine O.val (v := .bool (!(ins.getD q false))) hf rfl rfl rfl (RunV.not rfl) ?_
    clear hf a; intro a hf
    refine O.nil ?_
    refine k_seq ?_
    replace hf : Fr a 37 [] [(1, .map (some bm)), (2, .int .i64 least), (3, .pointer (some ⟨b_m1, 0, none⟩)), (6, .slice none 0 0), (7, vo), (9, .int .i64 (q : Int)), (13, vk), (14, .int .i64 (ks.length : Int)), (15, .int .i64 (j : Int)), (22, .bool (!(ins.getD q false)))] := hf.to ⟨rfl, rfl, rfl, rfl, rfl, rfl, rfl, rfl, rfl, rfl, trivial⟩
    refine W.if_ hf rfl (fun hnin => ?_) (fun hnin => ?_)
    · have hninb := hnin
      try simp only [Bool.and_eq_true, Bool.or_eq_true, Bool.and_eq_false_iff, Bool.or_eq_false_iff, decide_eq_true_eq, decide_eq_false_iff_not, Bool.not_eq_true', Bool.not_eq_false', Bool.not_eq_true, Bool.not_eq_false, ne_eq] at hnin
      have hin : ¬ ins.getD q false = true := by simpa using hnin
      refine W.exit ?_
      refine k_then_exit ?_
      refine k_blk ?_
      refine k_seq ?_
      -- region 9
      refine W.regionL (l := [0, 1]) rfl ?_
      refine O.val hf rfl rfl rfl (RunV.addI rfl rfl (by omega)) ?_
      clear hf a; intro a hf
      refine O.val hf rfl rfl rfl (RunV.move rfl) ?_
      clear hf a; intro a hf
      refine O.nil ?_
      refine k_then ⟨(j + 1, vo, vs, ins, xss), ⟨hf.to ⟨rfl, rfl, rfl, rfl, (by first | rfl | exact congrArg some (congrArg (Value.int _) (by omega))), rfl, rfl, (by first | rfl | exact congrArg some (congrArg (Value.int _) (by omega))), trivial⟩, ?_, ?_, ?_, ?_, ?_⟩, ?_⟩
      · exact hS.eqM rfl
      · omega
      · exact Det.partsK_skip h2 hq hin
      · exact h3
      · omega
      · dsimp only; omega
    · have hninb := hnin
      try simp only [Bool.and_eq_true, Bool.or_eq_true, Bool.and_eq_false_iff, Bool.or_eq_false_iff, decide_eq_true_eq, decide_eq_false_iff_not, Bool.not_eq_true', Bool.not_eq_false', Bool.not_eq_true, Bool.not_eq_false, ne_eq] at hnin
      have hin : ins.getD q false = true := by simpa using hnin
      refine W.skip ?_
      refine k_seq ?_
      refine W.seq ?_
      -- region 6
      refine W.regionL (l := [0, 1, 2, 3, 4]) rfl ?_
      refine O.val hf rfl rfl rfl (RunV.loadN (cs' := #[.int .i64 (fW : Int), .int .i64 (fH : Int), vP]) T_agg_42 T_size_42 rfl (hS.ptAt (i := 4) rfl) (Nat.le_of_ble_eq_true rfl) rfl) ?_
      clear hf a; intro a hf
      refine O.val hf rfl rfl rfl (RunV.move rfl) ?_
      clear hf a; intro a hf
      refine O.val hf rfl rfl rfl (RunV.move rfl) ?_
      clear hf a; intro a hf
      refine O.callR hf rfl rfl rfl (RunE.call (av := #[.agg #[.int .i64 (fW : Int), .int .i64 (fH : Int), vP], .map (some bm), .int .i64 (q : Int)]) C_ok_19 rfl rfl rfl) (part19_spec fW fH q bm vP ins _ hW hH h3 hqn (hS.msAt (j := 5) rfl)) ?_
      clear hf a
      rintro vp w6 hS1 a hf
      replace hf : Fr a _ _ ((26, vp) :: _) := hf
      replace hS := (hS.callX1 hS1 (i := 5) rfl (fun _ h => h)).eqM (N := [sl 3 1 vp ((Det.part fW fH ins q).2.length) (ints (Det.part fW fH ins q).2), ms bm ((Det.part fW fH ins q).1), inn vs xss, sl 46 1 vo vs.length vs, sl 3 1 vk ks.length (ints ks), pt bk (.cells #[.map (some bm)] 40 (0, 0)), pt b_m1 (.cells #[.int .i64 (fW : Int), .int .i64 (fH : Int), vP] 42 (0, 0))]) rfl
      clear hS1
      refine O.val hf rfl rfl rfl (RunV.assign rfl) ?_
      clear hf a; intro a hf
      refine O.nil ?_
      refine k_seq ?_
      replace hf : Fr a 37 [] [(1, .map (some bm)), (2, .int .i64 least), (3, .pointer (some ⟨b_m1, 0, none⟩)), (6, .slice none 0 0), (7, vo), (9, .int .i64 (q : Int)), (10, vp), (13, vk), (14, .int .i64 (ks.length : Int)), (15, .int .i64 (j : Int))] := hf.to ⟨rfl, rfl, rfl, rfl, rfl, rfl, rfl, rfl, rfl, rfl, trivial⟩
      refine W.seq ?_
      -- region 7
      refine W.regionL (l := [0, 1, 2, 3]) rfl ?_
      have hple : (Det.part fW fH ins q).2.length ≤ fW * fH := Det.part_le
      refine O.val hf rfl rfl rfl (RunV.move rfl) ?_
      clear hf a; intro a hf
      refine O.val hf rfl rfl rfl (RunV.lenV (e := 3) (by simpa using T_elem_46) rfl (hS.slr (j := 0) rfl)) ?_
      clear hf a; intro a hf
      refine O.val hf rfl rfl rfl (RunV.move rfl) ?_
      clear hf a; intro a hf
      refine O.val (v := .bool (decide (((Det.part fW fH ins q).2.length : Int) ≥ (least : Int)))) hf rfl rfl rfl (RunV.geq rfl rfl) ?_
      clear hf a; intro a hf
      refine O.nil ?_
      refine k_seq ?_
      replace hf : Fr a 37 [] [(1, .map (some bm)), (2, .int .i64 least), (3, .pointer (some ⟨b_m1, 0, none⟩)), (6, .slice none 0 0), (7, vo), (9, .int .i64 (q : Int)), (10, vp), (13, vk), (14, .int .i64 (ks.length : Int)), (15, .int .i64 (j : Int)), (30, .bool (decide (((Det.part fW fH ins q).2.length : Int) ≥ (least : Int))))] := hf.to ⟨rfl, rfl, rfl, rfl, rfl, rfl, rfl, rfl, rfl, rfl, rfl, trivial⟩
      refine W.ifdI hf rfl (fun hle => ?_) (fun hle => ?_)
      · -- region 8
        refine W.regionL (l := [0, 1, 2, 3, 4]) rfl ?_
        refine O.val hf rfl rfl rfl (RunV.move rfl) ?_
        clear hf a; intro a hf
        refine O.val hf rfl rfl rfl (RunV.move rfl) ?_
        clear hf a; intro a hf
        have hcl9 := rdOK.cells (hS.slr (j := 0) rfl)
        refine O.buildSlice (cs' := #[vp]) (zs := #[.slice none 0 0]) hf hS rfl rfl T_elem_28 T_size_46 T_zero_46 rfl rfl rfl rfl (by simp [Instr.fill, hcl9.1]) ?_
        clear hf hS a; intro b_s8 w a hbb_s8 hS hf
        have hcl11 := rdOK.cells (hS.slr (j := 1) rfl)
        refine O.append1 (j := 4) (jj := 0) hf hS rfl rfl T_elem_28 T_size_46 T_bytes_46 T_zero_46 rfl rfl rfl rfl rfl rfl rfl hcl11.2 (by unfold maxLen; omega) (by omega) ?_
        clear hf hS a; intro v10 w a hS hf
        replace hS := hS.eqM (N := [pt b_s8 (.cells #[vp] 46 (0, 0)), sl 3 1 vp ((Det.part fW fH ins q).2.length) (ints (Det.part fW fH ins q).2), ms bm ((Det.part fW fH ins q).1), inn vs xss, sl 46 1 v10 (vs.length + 1) (vs ++ [vp]), sl 3 1 vk ks.length (ints ks), pt bk (.cells #[.map (some bm)] 40 (0, 0)), pt b_m1 (.cells #[.int .i64 (fW : Int), .int .i64 (fH : Int), vP] 42 (0, 0))]) rfl
        replace hS := hS.eqM (N := [pt b_s8 (.cells #[vp] 46 (0, 0)), sl 3 1 vp ((Det.part fW fH ins q).2.length) (ints (Det.part fW fH ins q).2), ms bm ((Det.part fW fH ins q).1), inn vs xss, sl 46 1 v10 ((vs ++ [vp]).length) (vs ++ [vp]), sl 3 1 vk ks.length (ints ks), pt bk (.cells #[.map (some bm)] 40 (0, 0)), pt b_m1 (.cells #[.int .i64 (fW : Int), .int .i64 (fH : Int), vP] 42 (0, 0))]) (by rw [sl_vs])
        refine O.val hf rfl rfl rfl (RunV.assign rfl) ?_
        clear hf a; intro a hf
        refine O.nil ?_
        replace hS := hS.front (i := 3) (M' := [inn vs xss, pt b_s8 (.cells #[vp] 46 (0, 0)), sl 3 1 vp ((Det.part fW fH ins q).2.length) (ints (Det.part fW fH ins q).2), ms bm ((Det.part fW fH ins q).1), sl 46 1 v10 ((vs ++ [vp]).length) (vs ++ [vp]), sl 3 1 vk ks.length (ints ks), pt bk (.cells #[.map (some bm)] 40 (0, 0)), pt b_m1 (.cells #[.int .i64 (fW : Int), .int .i64 (fH : Int), vP] 42 (0, 0))]) rfl rfl
        replace hS := hS.front (i := 2) (M' := [sl 3 1 vp ((Det.part fW fH ins q).2.length) (ints (Det.part fW fH ins q).2), inn vs xss, pt b_s8 (.cells #[vp] 46 (0, 0)), ms bm ((Det.part fW fH ins q).1), sl 46 1 v10 ((vs ++ [vp]).length) (vs ++ [vp]), sl 3 1 vk ks.length (ints ks), pt bk (.cells #[.map (some bm)] 40 (0, 0)), pt b_m1 (.cells #[.int .i64 (fW : Int), .int .i64 (fH : Int), vP] 42 (0, 0))]) rfl rfl
        replace hS := hS.innAdd
        refine k_blk_normal ?_
        refine k_seq ?_
        replace hf : Fr a 37 [] [(1, .map (some bm)), (2, .int .i64 least), (3, .pointer (some ⟨b_m1, 0, none⟩)), (6, .slice none 0 0), (7, v10), (9, .int .i64 (q : Int)), (10, vp), (13, vk), (14, .int .i64 (ks.length : Int)), (15, .int .i64 (j : Int))] := hf.to ⟨rfl, rfl, rfl, rfl, rfl, rfl, rfl, rfl, rfl, rfl, trivial⟩
        -- region 9
        refine W.regionL (l := [0, 1]) rfl ?_
        refine O.val hf rfl rfl rfl (RunV.addI rfl rfl (by omega)) ?_
        clear hf a; intro a hf
        refine O.val hf rfl rfl rfl (RunV.move rfl) ?_
        clear hf a; intro a hf
        refine O.nil ?_
        replace hS := hS.front (i := 2) (M' := [ms bm ((Det.part fW fH ins q).1), inn (vs ++ [vp]) (xss ++ [(Det.part fW fH ins q).2]), pt b_s8 (.cells #[vp] 46 (0, 0)), sl 46 1 v10 ((vs ++ [vp]).length) (vs ++ [vp]), sl 3 1 vk ks.length (ints ks), pt bk (.cells #[.map (some bm)] 40 (0, 0)), pt b_m1 (.cells #[.int .i64 (fW : Int), .int .i64 (fH : Int), vP] 42 (0, 0))]) rfl rfl
        replace hS := hS.front (i := 6) (M' := [pt b_m1 (.cells #[.int .i64 (fW : Int), .int .i64 (fH : Int), vP] 42 (0, 0)), ms bm ((Det.part fW fH ins q).1), inn (vs ++ [vp]) (xss ++ [(Det.part fW fH ins q).2]), pt b_s8 (.cells #[vp] 46 (0, 0)), sl 46 1 v10 ((vs ++ [vp]).length) (vs ++ [vp]), sl 3 1 vk ks.length (ints ks), pt bk (.cells #[.map (some bm)] 40 (0, 0))]) rfl rfl
        replace hS := hS.front (i := 6) (M' := [pt bk (.cells #[.map (some bm)] 40 (0, 0)), pt b_m1 (.cells #[.int .i64 (fW : Int), .int .i64 (fH : Int), vP] 42 (0, 0)), ms bm ((Det.part fW fH ins q).1), inn (vs ++ [vp]) (xss ++ [(Det.part fW fH ins q).2]), pt b_s8 (.cells #[vp] 46 (0, 0)), sl 46 1 v10 ((vs ++ [vp]).length) (vs ++ [vp]), sl 3 1 vk ks.length (ints ks)]) rfl rfl
        replace hS := hS.front (i := 6) (M' := [sl 3 1 vk ks.length (ints ks), pt bk (.cells #[.map (some bm)] 40 (0, 0)), pt b_m1 (.cells #[.int .i64 (fW : Int), .int .i64 (fH : Int), vP] 42 (0, 0)), ms bm ((Det.part fW fH ins q).1), inn (vs ++ [vp]) (xss ++ [(Det.part fW fH ins q).2]), pt b_s8 (.cells #[vp] 46 (0, 0)), sl 46 1 v10 ((vs ++ [vp]).length) (vs ++ [vp])]) rfl rfl
        replace hS := hS.front (i := 6) (M' := [sl 46 1 v10 ((vs ++ [vp]).length) (vs ++ [vp]), sl 3 1 vk ks.length (ints ks), pt bk (.cells #[.map (some bm)] 40 (0, 0)), pt b_m1 (.cells #[.int .i64 (fW : Int), .int .i64 (fH : Int), vP] 42 (0, 0)), ms bm ((Det.part fW fH ins q).1), inn (vs ++ [vp]) (xss ++ [(Det.part fW fH ins q).2]), pt b_s8 (.cells #[vp] 46 (0, 0))]) rfl rfl
        replace hS := hS.front (i := 5) (M' := [inn (vs ++ [vp]) (xss ++ [(Det.part fW fH ins q).2]), sl 46 1 v10 ((vs ++ [vp]).length) (vs ++ [vp]), sl 3 1 vk ks.length (ints ks), pt bk (.cells #[.map (some bm)] 40 (0, 0)), pt b_m1 (.cells #[.int .i64 (fW : Int), .int .i64 (fH : Int), vP] 42 (0, 0)), ms bm ((Det.part fW fH ins q).1), pt b_s8 (.cells #[vp] 46 (0, 0))]) rfl rfl
        replace hS := hS.sub (N := [inn (vs ++ [vp]) (xss ++ [(Det.part fW fH ins q).2]), sl 46 1 v10 ((vs ++ [vp]).length) (vs ++ [vp]), sl 3 1 vk ks.length (ints ks), pt bk (.cells #[.map (some bm)] 40 (0, 0)), pt b_m1 (.cells #[.int .i64 (fW : Int), .int .i64 (fH : Int), vP] 42 (0, 0)), ms bm ((Det.part fW fH ins q).1)]) (.cons_cons _ (.cons_cons _ (.cons_cons _ (.cons_cons _ (.cons_cons _ (.cons_cons _ (.cons _ .slnil)))))))
        refine k_then ⟨(j + 1, v10, (vs ++ [vp]), (Det.part fW fH ins q).1, (xss ++ [(Det.part fW fH ins q).2])), ⟨hf.to ⟨rfl, rfl, rfl, rfl, (by first | rfl | exact congrArg some (congrArg (Value.int _) (by omega))), rfl, rfl, (by first | rfl | exact congrArg some (congrArg (Value.int _) (by omega))), trivial⟩, ?_, ?_, ?_, ?_, ?_⟩, ?_⟩
        · exact hS.eqM rfl
        · omega
        · exact Det.partsK_take h2 hq hin (by omega)
        · exact Det.part_len h3 hqn
        · simp only [List.length_append, List.length_singleton]; omega
        · dsimp only; omega
      · refine W.skip ?_
        refine k_blk_normal ?_
        refine k_seq ?_
        -- region 9
        refine W.regionL (l := [0, 1]) rfl ?_
        refine O.val hf rfl rfl rfl (RunV.addI rfl rfl (by omega)) ?_
        clear hf a; intro a hf
        refine O.val hf rfl rfl rfl (RunV.move rfl) ?_
        clear hf a; intro a hf
        refine O.nil ?_
        replace hS := hS.front (i := 1) (M' := [ms bm ((Det.part fW fH ins q).1), sl 3 1 vp ((Det.part fW fH ins q).2.length) (ints (Det.part fW fH ins q).2), inn vs xss, sl 46 1 vo vs.length vs, sl 3 1 vk ks.length (ints ks), pt bk (.cells #[.map (some bm)] 40 (0, 0)), pt b_m1 (.cells #[.int .i64 (fW : Int), .int .i64 (fH : Int), vP] 42 (0, 0))]) rfl rfl
        replace hS := hS.front (i := 6) (M' := [pt b_m1 (.cells #[.int .i64 (fW : Int), .int .i64 (fH : Int), vP] 42 (0, 0)), ms bm ((Det.part fW fH ins q).1), sl 3 1 vp ((Det.part fW fH ins q).2.length) (ints (Det.part fW fH ins q).2), inn vs xss, sl 46 1 vo vs.length vs, sl 3 1 vk ks.length (ints ks), pt bk (.cells #[.map (some bm)] 40 (0, 0))]) rfl rfl
        replace hS := hS.front (i := 6) (M' := [pt bk (.cells #[.map (some bm)] 40 (0, 0)), pt b_m1 (.cells #[.int .i64 (fW : Int), .int .i64 (fH : Int), vP] 42 (0, 0)), ms bm ((Det.part fW fH ins q).1), sl 3 1 vp ((Det.part fW fH ins q).2.length) (ints (Det.part fW fH ins q).2), inn vs xss, sl 46 1 vo vs.length vs, sl 3 1 vk ks.length (ints ks)]) rfl rfl
        replace hS := hS.front (i := 6) (M' := [sl 3 1 vk ks.length (ints ks), pt bk (.cells #[.map (some bm)] 40 (0, 0)), pt b_m1 (.cells #[.int .i64 (fW : Int), .int .i64 (fH : Int), vP] 42 (0, 0)), ms bm ((Det.part fW fH ins q).1), sl 3 1 vp ((Det.part fW fH ins q).2.length) (ints (Det.part fW fH ins q).2), inn vs xss, sl 46 1 vo vs.length vs]) rfl rfl
        replace hS := hS.front (i := 6) (M' := [sl 46 1 vo vs.length vs, sl 3 1 vk ks.length (ints ks), pt bk (.cells #[.map (some bm)] 40 (0, 0)), pt b_m1 (.cells #[.int .i64 (fW : Int), .int .i64 (fH : Int), vP] 42 (0, 0)), ms bm ((Det.part fW fH ins q).1), sl 3 1 vp ((Det.part fW fH ins q).2.length) (ints (Det.part fW fH ins q).2), inn vs xss]) rfl rfl
        replace hS := hS.front (i := 6) (M' := [inn vs xss, sl 46 1 vo vs.length vs, sl 3 1 vk ks.length (ints ks), pt bk (.cells #[.map (some bm)] 40 (0, 0)), pt b_m1 (.cells #[.int .i64 (fW : Int), .int .i64 (fH : Int), vP] 42 (0, 0)), ms bm ((Det.part fW fH ins q).1), sl 3 1 vp ((Det.part fW fH ins q).2.length) (ints (Det.part fW fH ins q).2)]) rfl rfl
        replace hS := hS.sub (N := [inn vs xss, sl 46 1 vo vs.length vs, sl 3 1 vk ks.length (ints ks), pt bk (.cells #[.map (some bm)] 40 (0, 0)), pt b_m1 (.cells #[.int .i64 (fW : Int), .int .i64 (fH : Int), vP] 42 (0, 0)), ms bm ((Det.part fW fH ins q).1)]) (.cons_cons _ (.cons_cons _ (.cons_cons _ (.cons_cons _ (.cons_cons _ (.cons_cons _ (.cons _ .slnil)))))))
        refine k_then ⟨(j + 1, vo, vs, (Det.part fW fH ins q).1, xss), ⟨hf.to ⟨rfl, rfl, rfl, rfl, (by first | rfl | exact congrArg some (congrArg (Value.int _) (by omega))), rfl, rfl, (by first | rfl | exact congrArg some (congrArg (Value.int _) (by omega))), trivial⟩, ?_, ?_, ?_, ?_, ?_⟩, ?_⟩
        · exact hS.eqM rfl
        · omega
        · exact Det.partsK_small h2 hq hin (by omega)
        · exact Det.part_len h3 hqn
        · omega
        · dsimp only; omega
  · refine W.exit ?_
    refine k_then_exit ?_
    refine k_then_exit ?_
    refine k_blk ?_
    refine k_seq ?_
    replace hf : Fr a 37 [] [(6, .slice none 0 0), (7, vo)] := hf.to ⟨rfl, rfl, trivial⟩
    refine W.seq ?_
    -- region 10
    refine W.regionL (l := [0, 1]) rfl ?_
    refine O.val hf rfl rfl rfl (RunV.move rfl) ?_
    clear hf a; intro a hf
    refine O.val hf rfl rfl rfl (RunV.assign rfl) ?_
    clear hf a; intro a hf
    refine O.nil ?_
    refine k_seq ?_
    replace hf : Fr a 37 [] [(6, vo)] := hf.to ⟨rfl, trivial⟩
    refine W.ret ?_
    refine post1 hf rfl (ResOK.tmp rfl) ?_
    replace hS := hS.front (i := 0) (M' := [inn vs xss, sl 46 1 vo vs.length vs, sl 3 1 vk ks.length (ints ks), pt bk (.cells #[.map (some bm)] 40 (0, 0)), pt b_m1 (.cells #[.int .i64 (fW : Int), .int .i64 (fH : Int), vP] 42 (0, 0)), ms bm ins]) rfl rfl
    replace hS := hS.front (i := 1) (M' := [sl 46 1 vo vs.length vs, inn vs xss, sl 3 1 vk ks.length (ints ks), pt bk (.cells #[.map (some bm)] 40 (0, 0)), pt b_m1 (.cells #[.int .i64 (fW : Int), .int .i64 (fH : Int), vP] 42 (0, 0)), ms bm ins]) rfl rfl
    obtain rfl : j = ks.length := by omega
    rw [hfin] at h2
    refine ⟨(vo, vs), rfl, ?_⟩
    rw [← h2]
    exact (hS.sub (.cons_cons _ (.cons_cons _ (.cons _ (.cons _ (.cons _ (.cons _ .slnil))))))).noB

set_option maxHeartbeats 400000 in
set_option maxRecDepth 4000 in
theorem parts7_spec (fW fH thr least : Int) (vP vB : Value) (zs : List Int) (bs : List Bool) (w0 : World) [Decidable (Det.fieldOK fW fH zs)] (hP : rdOK (hp w0) 1 vP zs.length (ints zs)) (hB : rdOK (hp w0) 1 vB bs.length (bools bs)) :
    Ret Try.prog 7 #[.agg #[.int .i64 fW, .int .i64 fH, vP], vB, .int .i64 thr, .int .i64 least] w0 (G := Value × List Value) (fun g => .tuple #[g.1, .int .i64 (Det.partsE fW fH zs bs thr least)]) (fun g w => St w0 w noX [] [sl 46 1 g.1 g.2.length g.2, inn g.2 (Det.partsR fW fH zs bs thr least)]) := by
  refine ret_of_W (lv := [.agg #[.int .i64 fW, .int .i64 fH, vP], vB, .int .i64 thr, .int .i64 least]) Try.func7 rfl rfl rfl (fun a hf => ?_)
  replace hf : Fr a 64 [] [(0, .agg #[.int .i64 fW, .int .i64 fH, vP]), (1, vB), (2, .int .i64 thr), (3, .int .i64 least)] := hf
  have hS : St w0 w0 noX [rdv 1 vP zs.length (ints zs), rdv 1 vB bs.length (bools bs)] [] := ((St.refl w0).lend0 hB).lend0 hP
  have hlen := hP.2.1
  unfold maxLen at hlen
  refine W.seq ?_
  -- region 0
  refine W.regionL (l := [0, 1, 2]) rfl ?_
  refine O.box (cs := #[.int .i64 fW, .int .i64 fH, vP]) hf hS rfl rfl rfl rfl ?_
  clear hf hS a; intro b_f1 w a hbb_f1 hS hf
  refine O.val hf rfl rfl rfl (RunV.assign rfl) ?_
  clear hf a; intro a hf
  refine O.val hf rfl rfl rfl (RunV.assign rfl) ?_
  clear hf a; intro a hf
  refine O.nil ?_
  refine k_seq ?_
  replace hf : Fr a 64 [] [(1, vB), (2, .int .i64 thr), (3, .int .i64 least), (4, .pointer (some ⟨b_f1, 0, none⟩)), (8, .slice none 0 0), (9, .int .i64 0)] := hf.to ⟨rfl, rfl, rfl, rfl, rfl, rfl, trivial⟩
  refine W.seq ?_
  refine W.seq ?_
  -- region 1
  refine W.regionL (l := [0, 1, 2]) rfl ?_
  refine O.val hf rfl rfl rfl (RunV.loadN (cs' := #[.int .i64 fW, .int .i64 fH, vP]) T_agg_24 T_size_24 rfl (hS.ptAt (i := 0) rfl) (Nat.le_of_ble_eq_true rfl) rfl) ?_
  clear hf a; intro a hf
  refine O.callR hf rfl rfl rfl (RunE.call (av := #[.agg #[.int .i64 fW, .int .i64 fH, vP]]) C_ok_13 rfl rfl rfl) (check10_spec fW fH vP zs _ (hS.rdAt (j := 0) rfl)) ?_
  clear hf a
  rintro _ w2 hS1 a hf
  replace hf : Fr a _ _ ((14, .int .i64 (if Det.fieldOK fW fH zs then 0 else 8)) :: _) := hf
  replace hS := (hS.call hS1).eqM (N := [pt b_f1 (.cells #[.int .i64 fW, .int .i64 fH, vP] 24 (0, 0))]) rfl
  clear hS1
  refine O.val hf rfl rfl rfl (RunV.assign rfl) ?_
  clear hf a; intro a hf
  refine O.nil ?_
  refine k_seq ?_
  replace hf : Fr a 64 [] [(1, vB), (2, .int .i64 thr), (3, .int .i64 least), (4, .pointer (some ⟨b_f1, 0, none⟩)), (8, .slice none 0 0), (9, .int .i64 0), (10, .int .i64 (if Det.fieldOK fW fH zs then 0 else 8))] := hf.to ⟨rfl, rfl, rfl, rfl, rfl, rfl, rfl, trivial⟩
  refine W.seq ?_
  -- region 2
  refine W.regionL (l := [0, 1]) rfl ?_
  refine O.val hf rfl rfl rfl (RunV.move rfl) ?_
  clear hf a; intro a hf
  refine O.val (v := .bool (decide ((if Det.fieldOK fW fH zs then 0 else 8) ≠ (0 : Int)))) hf rfl rfl rfl (RunV.neq rfl rfl) ?_
  clear hf a; intro a hf
  refine O.nil ?_
  refine k_seq ?_
  replace hf : Fr a 64 [] [(1, vB), (2, .int .i64 thr), (3, .int .i64 least), (4, .pointer (some ⟨b_f1, 0, none⟩)), (8, .slice none 0 0), (9, .int .i64 0), (10, .int .i64 (if Det.fieldOK fW fH zs then 0 else 8)), (16, .bool (decide ((if Det.fieldOK fW fH zs then 0 else 8) ≠ (0 : Int))))] := hf.to ⟨rfl, rfl, rfl, rfl, rfl, rfl, rfl, rfl, trivial⟩
  refine W.ifdI hf rfl (fun hce => ?_) (fun hce => ?_)
  · have hfo : ¬ Det.fieldOK fW fH zs := fun h => hce (if_pos h)
    refine W.seq ?_
    -- region 3
    refine W.regionL (l := [0, 1, 2]) rfl ?_
    refine O.val hf rfl rfl rfl (RunV.move rfl) ?_
    clear hf a; intro a hf
    refine O.val hf rfl rfl rfl (RunV.assign rfl) ?_
    clear hf a; intro a hf
    refine O.val hf rfl rfl rfl (RunV.assign rfl) ?_
    clear hf a; intro a hf
    refine O.nil ?_
    refine k_seq ?_
    replace hf : Fr a 64 [] [(1, vB), (2, .int .i64 thr), (3, .int .i64 least), (4, .pointer (some ⟨b_f1, 0, none⟩)), (8, .slice none 0 0), (9, .int .i64 (if Det.fieldOK fW fH zs then 0 else 8))] := hf.to ⟨rfl, rfl, rfl, rfl, rfl, rfl, trivial⟩
    refine W.ret ?_
    refine k_then_ret ?_
    refine post2 hf rfl (ResOK.tmp rfl) (ResOK.tmp rfl) ?_
    have he : Det.partsE fW fH zs bs thr least = 8 := by unfold Det.partsE; rw [if_neg hfo]
    have hr : Det.partsR fW fH zs bs thr least = [] := by unfold Det.partsR; rw [if_neg (by rw [he]; decide)]
    refine ⟨(.slice none 0 0, []), by rw [he, if_neg hfo], ?_⟩
    rw [hr]
    exact St.pushSl (hS.sub (List.nil_sublist _) |>.noB) 46
  · have hfo : Det.fieldOK fW fH zs := Classical.byContradiction fun h => hce (by rw [if_neg h]; decide)
    have hzl := Det.field_len hfo
    refine W.skip ?_
    refine k_seq ?_
    replace hf : Fr a 64 [] [(1, vB), (2, .int .i64 thr), (3, .int .i64 least), (4, .pointer (some ⟨b_f1, 0, none⟩)), (8, .slice none 0 0), (9, .int .i64 0)] := hf.to ⟨rfl, rfl, rfl, rfl, rfl, rfl, trivial⟩
    refine W.seq ?_
    refine W.seq ?_
    -- region 4
    refine W.regionL (l := [0, 1, 2, 3, 4, 5, 6, 7, 8, 9, 10, 11, 12, 13, 14, 15, 16, 17]) rfl ?_
    refine O.val hf rfl rfl rfl (RunV.move rfl) ?_
    clear hf a; intro a hf
    refine O.val hf rfl rfl rfl (RunV.lenV (e := 4) (by simpa using T_elem_25) rfl (hS.rdAt (j := 1) rfl)) ?_
    clear hf a; intro a hf
    refine O.val hf rfl rfl rfl (RunV.field T_field_24_2 rfl rfl) ?_
    clear hf a; intro a hf
    refine O.val hf rfl rfl rfl (RunV.load1 T_agg_22 rfl (hS.ptAt (i := 0) rfl) rfl) ?_
    clear hf a; intro a hf
    refine O.val hf rfl rfl rfl (RunV.lenV (e := 2) (by simpa using T_elem_22) rfl (hS.rdAt (j := 0) rfl)) ?_
    clear hf a; intro a hf
    refine O.val (v := .bool (decide ((bs.length : Int) ≠ ((zs.length : Int) : Int)))) hf rfl rfl rfl (RunV.neq rfl rfl) ?_
    clear hf a; intro a hf
    refine O.val hf rfl rfl rfl (RunV.move rfl) ?_
    clear hf a; intro a hf
    -- a guarded part
    refine O.cutN (l₁ := [7, 8, 9]) (l₂ := _) (fun a w => Fr a 64 [] [(1, vB), (2, .int .i64 thr), (3, .int .i64 least), (4, .pointer (some ⟨b_f1, 0, none⟩)), (8, .slice none 0 0), (9, .int .i64 0), (18, vB), (19, .int .i64 (bs.length : Int)), (20, .pointer (some ⟨b_f1, 2, none⟩)), (21, vP), (22, .int .i64 (zs.length : Int)), (23, .bool (decide ((bs.length : Int) ≠ ((zs.length : Int) : Int)))), (24, .bool (decide ((bs.length : Int) ≠ ((zs.length : Int) : Int)))), (27, .bool ((decide ((bs.length : Int) ≠ ((zs.length : Int) : Int))) || (decide (thr < (-4294967296 : Int)))))] ∧ St w0 w noX [rdv 1 vP zs.length (ints zs), rdv 1 vB bs.length (bools bs)] [pt b_f1 (.cells #[.int .i64 fW, .int .i64 fH, vP] 24 (0, 0))]) rfl ?_ ?_
    · rcases Bool.eq_false_or_eq_true (decide ((bs.length : Int) ≠ ((zs.length : Int) : Int))) with hb4 | hb4
      · have hb4p := of_decide_eq_true hb4
        refine O.skipB hf rfl rfl rfl hb4 rfl ?_; clear hf a; intro a hf
        refine O.skipB hf rfl rfl rfl hb4 rfl ?_; clear hf a; intro a hf
        refine O.val (v := .bool ((decide ((bs.length : Int) ≠ ((zs.length : Int) : Int))) || (decide (thr < (-4294967296 : Int))))) hf rfl rfl rfl (RunV.pick rfl rfl rfl (by rw [hb4]; rfl)) ?_; clear hf a; intro a hf
        exact O.nil ⟨rfl, hf.to ⟨rfl, rfl, rfl, rfl, rfl, rfl, rfl, rfl, rfl, rfl, rfl, rfl, rfl, rfl, trivial⟩, hS⟩
      · have hb4p := of_decide_eq_false hb4
        refine O.gvalB (v := .int .i64 thr) hf rfl rfl rfl hb4 rfl rfl (RunV.move rfl) ?_
        clear hf a; intro a hf
        refine O.gvalB (v := .bool (decide (thr < (-4294967296 : Int)))) hf rfl rfl rfl hb4 rfl rfl (RunV.lss rfl rfl) ?_
        clear hf a; intro a hf
        refine O.val (v := .bool ((decide ((bs.length : Int) ≠ ((zs.length : Int) : Int))) || (decide (thr < (-4294967296 : Int))))) hf rfl rfl rfl (RunV.pick rfl rfl rfl (by rw [hb4]; rfl)) ?_; clear hf a; intro a hf
        exact O.nil ⟨rfl, hf.to ⟨rfl, rfl, rfl, rfl, rfl, rfl, rfl, rfl, rfl, rfl, rfl, rfl, rfl, rfl, trivial⟩, hS⟩
    clear hf hS a; rintro a w ⟨hf, hS⟩
    refine O.val hf rfl rfl rfl (RunV.move rfl) ?_
    clear hf a; intro a hf
    -- a guarded part
    refine O.cutN (l₁ := [11, 12, 13]) (l₂ := _) (fun a w => Fr a 64 [] [(1, vB), (2, .int .i64 thr), (3, .int .i64 least), (4, .pointer (some ⟨b_f1, 0, none⟩)), (8, .slice none 0 0), (9, .int .i64 0), (18, vB), (19, .int .i64 (bs.length : Int)), (20, .pointer (some ⟨b_f1, 2, none⟩)), (21, vP), (22, .int .i64 (zs.length : Int)), (23, .bool (decide ((bs.length : Int) ≠ ((zs.length : Int) : Int)))), (24, .bool (decide ((bs.length : Int) ≠ ((zs.length : Int) : Int)))), (27, .bool ((decide ((bs.length : Int) ≠ ((zs.length : Int) : Int))) || (decide (thr < (-4294967296 : Int))))), (28, .bool ((decide ((bs.length : Int) ≠ ((zs.length : Int) : Int))) || (decide (thr < (-4294967296 : Int))))), (31, .bool (((decide ((bs.length : Int) ≠ ((zs.length : Int) : Int))) || (decide (thr < (-4294967296 : Int)))) || (decide (thr > (4294967296 : Int)))))] ∧ St w0 w noX [rdv 1 vP zs.length (ints zs), rdv 1 vB bs.length (bools bs)] [pt b_f1 (.cells #[.int .i64 fW, .int .i64 fH, vP] 24 (0, 0))]) rfl ?_ ?_
    · rcases Bool.eq_false_or_eq_true ((decide ((bs.length : Int) ≠ ((zs.length : Int) : Int))) || (decide (thr < (-4294967296 : Int)))) with hb5 | hb5
      · have hb5p := hb5
        try simp only [Bool.and_eq_true, Bool.or_eq_true, Bool.and_eq_false_iff, Bool.or_eq_false_iff, decide_eq_true_eq, decide_eq_false_iff_not, Bool.not_eq_true', Bool.not_eq_false', Bool.not_eq_true, Bool.not_eq_false, ne_eq] at hb5p
        refine O.skipB hf rfl rfl rfl hb5 rfl ?_; clear hf a; intro a hf
        refine O.skipB hf rfl rfl rfl hb5 rfl ?_; clear hf a; intro a hf
        refine O.val (v := .bool (((decide ((bs.length : Int) ≠ ((zs.length : Int) : Int))) || (decide (thr < (-4294967296 : Int)))) || (decide (thr > (4294967296 : Int))))) hf rfl rfl rfl (RunV.pick rfl rfl rfl (by rw [hb5]; rfl)) ?_; clear hf a; intro a hf
        exact O.nil ⟨rfl, hf.to ⟨rfl, rfl, rfl, rfl, rfl, rfl, rfl, rfl, rfl, rfl, rfl, rfl, rfl, rfl, rfl, rfl, trivial⟩, hS⟩
      · have hb5p := hb5
        try simp only [Bool.and_eq_true, Bool.or_eq_true, Bool.and_eq_false_iff, Bool.or_eq_false_iff, decide_eq_true_eq, decide_eq_false_iff_not, Bool.not_eq_true', Bool.not_eq_false', Bool.not_eq_true, Bool.not_eq_false, ne_eq] at hb5p
        refine O.gvalB (v := .int .i64 thr) hf rfl rfl rfl hb5 rfl rfl (RunV.move rfl) ?_
        clear hf a; intro a hf
        refine O.gvalB (v := .bool (decide (thr > (4294967296 : Int)))) hf rfl rfl rfl hb5 rfl rfl (RunV.gtr rfl rfl) ?_
        clear hf a; intro a hf
        refine O.val (v := .bool (((decide ((bs.length : Int) ≠ ((zs.length : Int) : Int))) || (decide (thr < (-4294967296 : Int)))) || (decide (thr > (4294967296 : Int))))) hf rfl rfl rfl (RunV.pick rfl rfl rfl (by rw [hb5]; rfl)) ?_; clear hf a; intro a hf
        exact O.nil ⟨rfl, hf.to ⟨rfl, rfl, rfl, rfl, rfl, rfl, rfl, rfl, rfl, rfl, rfl, rfl, rfl, rfl, rfl, rfl, trivial⟩, hS⟩
    clear hf hS a; rintro a w ⟨hf, hS⟩
    refine O.val hf rfl rfl rfl (RunV.move rfl) ?_
    clear hf a; intro a hf
    -- a guarded part
    refine O.cutN (l₁ := [15, 16, 17]) (l₂ := _) (fun a w => Fr a 64 [] [(1, vB), (2, .int .i64 thr), (3, .int .i64 least), (4, .pointer (some ⟨b_f1, 0, none⟩)), (8, .slice none 0 0), (9, .int .i64 0), (18, vB), (19, .int .i64 (bs.length : Int)), (20, .pointer (some ⟨b_f1, 2, none⟩)), (21, vP), (22, .int .i64 (zs.length : Int)), (23, .bool (decide ((bs.length : Int) ≠ ((zs.length : Int) : Int)))), (24, .bool (decide ((bs.length : Int) ≠ ((zs.length : Int) : Int)))), (27, .bool ((decide ((bs.length : Int) ≠ ((zs.length : Int) : Int))) || (decide (thr < (-4294967296 : Int))))), (28, .bool ((decide ((bs.length : Int) ≠ ((zs.length : Int) : Int))) || (decide (thr < (-4294967296 : Int))))), (31, .bool (((decide ((bs.length : Int) ≠ ((zs.length : Int) : Int))) || (decide (thr < (-4294967296 : Int)))) || (decide (thr > (4294967296 : Int))))), (32, .bool (((decide ((bs.length : Int) ≠ ((zs.length : Int) : Int))) || (decide (thr < (-4294967296 : Int)))) || (decide (thr > (4294967296 : Int))))), (35, .bool ((((decide ((bs.length : Int) ≠ ((zs.length : Int) : Int))) || (decide (thr < (-4294967296 : Int)))) || (decide (thr > (4294967296 : Int)))) || (decide (least < (1 : Int)))))] ∧ St w0 w noX [rdv 1 vP zs.length (ints zs), rdv 1 vB bs.length (bools bs)] [pt b_f1 (.cells #[.int .i64 fW, .int .i64 fH, vP] 24 (0, 0))]) rfl ?_ ?_
    · rcases Bool.eq_false_or_eq_true (((decide ((bs.length : Int) ≠ ((zs.length : Int) : Int))) || (decide (thr < (-4294967296 : Int)))) || (decide (thr > (4294967296 : Int)))) with hb6 | hb6
      · have hb6p := hb6
        try simp only [Bool.and_eq_true, Bool.or_eq_true, Bool.and_eq_false_iff, Bool.or_eq_false_iff, decide_eq_true_eq, decide_eq_false_iff_not, Bool.not_eq_true', Bool.not_eq_false', Bool.not_eq_true, Bool.not_eq_false, ne_eq] at hb6p
        refine O.skipB hf rfl rfl rfl hb6 rfl ?_; clear hf a; intro a hf
        refine O.skipB hf rfl rfl rfl hb6 rfl ?_; clear hf a; intro a hf
        refine O.val (v := .bool ((((decide ((bs.length : Int) ≠ ((zs.length : Int) : Int))) || (decide (thr < (-4294967296 : Int)))) || (decide (thr > (4294967296 : Int)))) || (decide (least < (1 : Int))))) hf rfl rfl rfl (RunV.pick rfl rfl rfl (by rw [hb6]; rfl)) ?_; clear hf a; intro a hf
        exact O.nil ⟨rfl, hf.to ⟨rfl, rfl, rfl, rfl, rfl, rfl, rfl, rfl, rfl, rfl, rfl, rfl, rfl, rfl, rfl, rfl, rfl, rfl, trivial⟩, hS⟩
      · have hb6p := hb6
        try simp only [Bool.and_eq_true, Bool.or_eq_true, Bool.and_eq_false_iff, Bool.or_eq_false_iff, decide_eq_true_eq, decide_eq_false_iff_not, Bool.not_eq_true', Bool.not_eq_false', Bool.not_eq_true, Bool.not_eq_false, ne_eq] at hb6p
        refine O.gvalB (v := .int .i64 least) hf rfl rfl rfl hb6 rfl rfl (RunV.move rfl) ?_
        clear hf a; intro a hf
        refine O.gvalB (v := .bool (decide (least < (1 : Int)))) hf rfl rfl rfl hb6 rfl rfl (RunV.lss rfl rfl) ?_
        clear hf a; intro a hf
        refine O.val (v := .bool ((((decide ((bs.length : Int) ≠ ((zs.length : Int) : Int))) || (decide (thr < (-4294967296 : Int)))) || (decide (thr > (4294967296 : Int)))) || (decide (least < (1 : Int))))) hf rfl rfl rfl (RunV.pick rfl rfl rfl (by rw [hb6]; rfl)) ?_; clear hf a; intro a hf
        exact O.nil ⟨rfl, hf.to ⟨rfl, rfl, rfl, rfl, rfl, rfl, rfl, rfl, rfl, rfl, rfl, rfl, rfl, rfl, rfl, rfl, rfl, rfl, trivial⟩, hS⟩
    clear hf hS a; rintro a w ⟨hf, hS⟩
    refine O.nil ?_
    refine k_seq ?_
    replace hf : Fr a 64 [] [(1, vB), (2, .int .i64 thr), (3, .int .i64 least), (4, .pointer (some ⟨b_f1, 0, none⟩)), (8, .slice none 0 0), (9, .int .i64 0), (35, .bool ((((decide ((bs.length : Int) ≠ ((zs.length : Int) : Int))) || (decide (thr < (-4294967296 : Int)))) || (decide (thr > (4294967296 : Int)))) || (decide (least < (1 : Int)))))] := hf.to ⟨rfl, rfl, rfl, rfl, rfl, rfl, rfl, trivial⟩
    refine W.if_ hf rfl (fun hca => ?_) (fun hca => ?_)
    · have hcab := hca
      try simp only [Bool.and_eq_true, Bool.or_eq_true, Bool.and_eq_false_iff, Bool.or_eq_false_iff, decide_eq_true_eq, decide_eq_false_iff_not, Bool.not_eq_true', Bool.not_eq_false', Bool.not_eq_true, Bool.not_eq_false, ne_eq] at hca
      refine W.seq ?_
      -- region 5
      refine W.regionL (l := [0, 1]) rfl ?_
      refine O.val hf rfl rfl rfl (RunV.assign rfl) ?_
      clear hf a; intro a hf
      refine O.val hf rfl rfl rfl (RunV.assign rfl) ?_
      clear hf a; intro a hf
      refine O.nil ?_
      refine k_seq ?_
      refine W.ret ?_
      refine k_then_ret ?_
      refine post2 hf rfl (ResOK.tmp rfl) (ResOK.tmp rfl) ?_
      have he : Det.partsE fW fH zs bs thr least = 2 := by unfold Det.partsE; rw [if_pos hfo, if_neg (fun h => by omega)]
      have hr : Det.partsR fW fH zs bs thr least = [] := by unfold Det.partsR; rw [if_neg (by rw [he]; decide)]
      refine ⟨(.slice none 0 0, []), by rw [he], ?_⟩
      rw [hr]
      exact St.pushSl (hS.sub (List.nil_sublist _) |>.noB) 46
    · have hcab := hca
      try simp only [Bool.and_eq_true, Bool.or_eq_true, Bool.and_eq_false_iff, Bool.or_eq_false_iff, decide_eq_true_eq, decide_eq_false_iff_not, Bool.not_eq_true', Bool.not_eq_false', Bool.not_eq_true, Bool.not_eq_false, ne_eq] at hca
      refine W.skip ?_
      refine k_seq ?_
      refine W.seq ?_
      -- region 6
      refine W.regionL (l := [0]) rfl ?_
      refine O.val hf rfl rfl rfl (RunV.assign rfl) ?_
      clear hf a; intro a hf
      refine O.nil ?_
      refine k_seq ?_
      refine W.seq ?_
      refine W.seq ?_
      -- region 7
      refine W.regionL (l := [0]) rfl ?_
      refine O.val hf rfl rfl rfl (RunV.assign rfl) ?_
      clear hf a; intro a hf
      refine O.nil ?_
      refine k_seq ?_
      refine W.block ?_
      replace hS : St w0 _ noX [rdv 1 vP zs.length (ints zs), rdv 1 vB bs.length (bools bs)] [sl 4 1 (.slice none 0 0) (([] : List Bool).length) (bools []), pt b_f1 (.cells #[.int .i64 fW, .int .i64 fH, vP] 24 (0, 0))] := hS.nilSl 4 1
      -- loop 0
      refine W.loop (G := (Nat) × (Value) × (List Bool)) (fun g a w => match g with | (k, vi, inn0) => Fr a 64 [] [(1, vB), (2, .int .i64 thr), (3, .int .i64 least), (4, .pointer (some ⟨b_f1, 0, none⟩)), (8, .slice none 0 0), (9, .int .i64 0), (11, vi), (12, .int .i64 (k : Int))] ∧ St w0 w noX [rdv 1 vP zs.length (ints zs), rdv 1 vB bs.length (bools bs)] [sl 4 1 vi inn0.length (bools inn0), pt b_f1 (.cells #[.int .i64 fW, .int .i64 fH, vP] 24 (0, 0))] ∧ (k ≤ zs.length) ∧ (inn0 = Det.bright zs bs thr k) ∧ (inn0.length = k)) (fun g => match g with | (k, vi, inn0) => zs.length - k) (0, (.slice none 0 0), []) ?_ ?_
      · refine ⟨hf.to ⟨rfl, rfl, rfl, rfl, rfl, rfl, (by first | rfl | exact congrArg some (congrArg (Value.int _) (by omega))), (by first | rfl | exact congrArg some (congrArg (Value.int _) (by omega))), trivial⟩, hS, ?_, ?_, ?_⟩
        · omega
        · rfl
        · rfl
      clear hf hS a
      rintro ⟨k, vi, inn0⟩ a w ⟨hf, hS, h1, h2, h3⟩
      refine W.seq ?_
      refine W.seq ?_
      -- region 8
      refine W.regionL (l := [0, 1, 2, 3, 4]) rfl ?_
      refine O.val hf rfl rfl rfl (RunV.move rfl) ?_
      clear hf a; intro a hf
      refine O.val hf rfl rfl rfl (RunV.field T_field_24_2 rfl rfl) ?_
      clear hf a; intro a hf
      refine O.val hf rfl rfl rfl (RunV.load1 T_agg_22 rfl (hS.ptAt (i := 1) rfl) rfl) ?_
      clear hf a; intro a hf
      refine O.val hf rfl rfl rfl (RunV.lenV (e := 2) (by simpa using T_elem_22) rfl (hS.rdAt (j := 0) rfl)) ?_
      clear hf a; intro a hf
      refine O.val (v := .bool (decide ((k : Int) < ((zs.length : Int) : Int)))) hf rfl rfl rfl (RunV.lss rfl rfl) ?_
      clear hf a; intro a hf
      refine O.nil ?_
      refine k_seq ?_
      replace hf : Fr a 64 [] [(1, vB), (2, .int .i64 thr), (3, .int .i64 least), (4, .pointer (some ⟨b_f1, 0, none⟩)), (8, .slice none 0 0), (9, .int .i64 0), (11, vi), (12, .int .i64 (k : Int)), (40, .bool (decide ((k : Int) < ((zs.length : Int) : Int))))] := hf.to ⟨rfl, rfl, rfl, rfl, rfl, rfl, rfl, rfl, rfl, trivial⟩
      refine W.ifdI hf rfl (fun hk => ?_) (fun hk => ?_)
      · refine W.skip ?_
        refine k_seq ?_
        refine W.seq ?_
        refine W.block ?_
        -- region 10
        refine W.regionL (l := [0, 1, 2, 3, 4, 5, 6, 7, 8, 9, 10, 11, 12, 13, 14, 15, 16, 17]) rfl ?_
        refine O.val hf rfl rfl rfl (RunV.move rfl) ?_
        clear hf a; intro a hf
        refine O.val hf rfl rfl rfl (RunV.move rfl) ?_
        clear hf a; intro a hf
        refine O.val hf rfl rfl rfl (RunV.move rfl) ?_
        clear hf a; intro a hf
        refine O.val hf rfl rfl rfl (RunV.ixV (j := k) (m := k) T_elem_25 T_size_4 rfl rfl (hS.rdAt (j := 1) rfl) rfl (by omega) (Nat.mul_one _)) ?_
        clear hf a; intro a hf
        refine O.val hf rfl rfl rfl (RunV.ld1 T_agg_4 rfl (hS.rdAt (j := 1) rfl) (bools_get (by omega))) ?_
        clear hf a; intro a hf
        refine O.val (v := .bool (!(bs.getD k false))) hf rfl rfl rfl (RunV.not rfl) ?_
        clear hf a; intro a hf
        refine O.val hf rfl rfl rfl (RunV.move rfl) ?_
        clear hf a; intro a hf
        -- a guarded part
        refine O.cutN (l₁ := [7, 8, 9, 10, 11, 12, 13, 14]) (l₂ := _) (fun a w => Fr a 64 [] [(1, vB), (2, .int .i64 thr), (3, .int .i64 least), (4, .pointer (some ⟨b_f1, 0, none⟩)), (8, .slice none 0 0), (9, .int .i64 0), (11, vi), (12, .int .i64 (k : Int)), (43, vi), (44, vB), (45, .int .i64 (k : Int)), (46, ix vB k), (47, .bool (bs.getD k false)), (48, .bool (!(bs.getD k false))), (49, .bool (!(bs.getD k false))), (57, .bool ((!(bs.getD k false)) && (decide ((zs.getD k 0) ≥ (thr : Int)))))] ∧ St w0 w noX [rdv 1 vP zs.length (ints zs), rdv 1 vB bs.length (bools bs)] [sl 4 1 vi inn0.length (bools inn0), pt b_f1 (.cells #[.int .i64 fW, .int .i64 fH, vP] 24 (0, 0))]) rfl ?_ ?_
        · rcases Bool.eq_false_or_eq_true (!(bs.getD k false)) with hb9 | hb9
          · have hb9p := hb9
            try simp only [Bool.and_eq_true, Bool.or_eq_true, Bool.and_eq_false_iff, Bool.or_eq_false_iff, decide_eq_true_eq, decide_eq_false_iff_not, Bool.not_eq_true', Bool.not_eq_false', Bool.not_eq_true, Bool.not_eq_false, ne_eq] at hb9p
            refine O.gvalB (v := .pointer (some ⟨b_f1, 2, none⟩)) hf rfl rfl rfl hb9 rfl rfl (RunV.field T_field_24_2 rfl rfl) ?_
            clear hf a; intro a hf
            refine O.gvalB (v := vP) hf rfl rfl rfl hb9 rfl rfl (RunV.load1 T_agg_22 rfl (hS.ptAt (i := 1) rfl) rfl) ?_
            clear hf a; intro a hf
            refine O.gvalB (v := .int .i64 (k : Int)) hf rfl rfl rfl hb9 rfl rfl (RunV.move rfl) ?_
            clear hf a; intro a hf
            refine O.gvalB (v := ix vP k) hf rfl rfl rfl hb9 rfl rfl (RunV.ixV (j := k) (m := k) T_elem_22 T_size_2 rfl rfl (hS.rdAt (j := 0) rfl) rfl (by omega) (Nat.mul_one _)) ?_
            clear hf a; intro a hf
            refine O.gvalB (v := .int .i64 (zs.getD k 0)) hf rfl rfl rfl hb9 rfl rfl (RunV.ld1 T_agg_2 rfl (hS.rdAt (j := 0) rfl) (ints_get (by omega))) ?_
            clear hf a; intro a hf
            refine O.gvalB (v := .int .i64 thr) hf rfl rfl rfl hb9 rfl rfl (RunV.move rfl) ?_
            clear hf a; intro a hf
            refine O.gvalB (v := .bool (decide ((zs.getD k 0) ≥ (thr : Int)))) hf rfl rfl rfl hb9 rfl rfl (RunV.geq rfl rfl) ?_
            clear hf a; intro a hf
            refine O.val (v := .bool ((!(bs.getD k false)) && (decide ((zs.getD k 0) ≥ (thr : Int))))) hf rfl rfl rfl (RunV.pick rfl rfl rfl (by rw [hb9]; rfl)) ?_; clear hf a; intro a hf
            exact O.nil ⟨rfl, hf.to ⟨rfl, rfl, rfl, rfl, rfl, rfl, rfl, rfl, rfl, rfl, rfl, rfl, rfl, rfl, rfl, rfl, trivial⟩, hS⟩
          · have hb9p := hb9
            try simp only [Bool.and_eq_true, Bool.or_eq_true, Bool.and_eq_false_iff, Bool.or_eq_false_iff, decide_eq_true_eq, decide_eq_false_iff_not, Bool.not_eq_true', Bool.not_eq_false', Bool.not_eq_true, Bool.not_eq_false, ne_eq] at hb9p
            refine O.skipB hf rfl rfl rfl hb9 rfl ?_; clear hf a; intro a hf
            refine O.skipB hf rfl rfl rfl hb9 rfl ?_; clear hf a; intro a hf
            refine O.skipB hf rfl rfl rfl hb9 rfl ?_; clear hf a; intro a hf
            refine O.skipB hf rfl rfl rfl hb9 rfl ?_; clear hf a; intro a hf
            refine O.skipB hf rfl rfl rfl hb9 rfl ?_; clear hf a; intro a hf
            refine O.skipB hf rfl rfl rfl hb9 rfl ?_; clear hf a; intro a hf
            refine O.skipB hf rfl rfl rfl hb9 rfl ?_; clear hf a; intro a hf
            refine O.val (v := .bool ((!(bs.getD k false)) && (decide ((zs.getD k 0) ≥ (thr : Int))))) hf rfl rfl rfl (RunV.pick rfl rfl rfl (by rw [hb9]; rfl)) ?_; clear hf a; intro a hf
            exact O.nil ⟨rfl, hf.to ⟨rfl, rfl, rfl, rfl, rfl, rfl, rfl, rfl, rfl, rfl, rfl, rfl, rfl, rfl, rfl, rfl, trivial⟩, hS⟩
        clear hf hS a; rintro a w ⟨hf, hS⟩
        refine O.buildSlice (cs' := #[.bool ((!(bs.getD k false)) && (decide ((zs.getD k 0) ≥ (thr : Int))))]) (zs := #[.bool false]) hf hS rfl rfl T_elem_25 T_size_4 T_zero_4 rfl rfl rfl rfl rfl ?_
        clear hf hS a; intro b_s10 w a hbb_s10 hS hf
        refine O.append1 (j := 1) (jj := 0) hf hS rfl rfl T_elem_25 T_size_4 T_bytes_4 T_zero_4 rfl rfl rfl rfl rfl rfl rfl rfl (by unfold maxLen; omega) (by omega) ?_
        clear hf hS a; intro v11 w a hS hf
        replace hS := hS.eqM (N := [pt b_s10 (.cells #[.bool ((!(bs.getD k false)) && (decide ((zs.getD k 0) ≥ (thr : Int))))] 4 (0, 0)), sl 4 1 v11 (inn0.length + 1) (bools inn0 ++ [.bool ((!(bs.getD k false)) && (decide ((zs.getD k 0) ≥ (thr : Int))))]), pt b_f1 (.cells #[.int .i64 fW, .int .i64 fH, vP] 24 (0, 0))]) rfl
        replace hS := hS.eqM (N := [pt b_s10 (.cells #[.bool ((!(bs.getD k false)) && (decide ((zs.getD k 0) ≥ (thr : Int))))] 4 (0, 0)), sl 4 1 v11 ((inn0 ++ [(!(bs.getD k false)) && (decide ((zs.getD k 0) ≥ (thr : Int)))]).length) (bools (inn0 ++ [(!(bs.getD k false)) && (decide ((zs.getD k 0) ≥ (thr : Int)))])), pt b_f1 (.cells #[.int .i64 fW, .int .i64 fH, vP] 24 (0, 0))]) (by rw [sl_bools])
        refine O.val hf rfl rfl rfl (RunV.assign rfl) ?_
        clear hf a; intro a hf
        refine O.nil ?_
        refine k_blk_normal ?_
        refine k_seq ?_
        replace hf : Fr a 64 [] [(1, vB), (2, .int .i64 thr), (3, .int .i64 least), (4, .pointer (some ⟨b_f1, 0, none⟩)), (8, .slice none 0 0), (9, .int .i64 0), (11, v11), (12, .int .i64 (k : Int))] := hf.to ⟨rfl, rfl, rfl, rfl, rfl, rfl, rfl, rfl, trivial⟩
        -- region 9
        refine W.regionL (l := [0, 1, 2]) rfl ?_
        refine O.val hf rfl rfl rfl (RunV.move rfl) ?_
        clear hf a; intro a hf
        refine O.val hf rfl rfl rfl (RunV.addI rfl rfl (by omega)) ?_
        clear hf a; intro a hf
        refine O.val hf rfl rfl rfl (RunV.assign rfl) ?_
        clear hf a; intro a hf
        refine O.nil ?_
        replace hS := hS.sub (N := [sl 4 1 v11 ((inn0 ++ [(!(bs.getD k false)) && (decide ((zs.getD k 0) ≥ (thr : Int)))]).length) (bools (inn0 ++ [(!(bs.getD k false)) && (decide ((zs.getD k 0) ≥ (thr : Int)))])), pt b_f1 (.cells #[.int .i64 fW, .int .i64 fH, vP] 24 (0, 0))]) (.cons _ (.cons_cons _ (.cons_cons _ .slnil)))
        refine k_then ⟨(k + 1, v11, (inn0 ++ [(!(bs.getD k false)) && (decide ((zs.getD k 0) ≥ (thr : Int)))])), ⟨hf.to ⟨rfl, rfl, rfl, rfl, rfl, rfl, (by first | rfl | exact congrArg some (congrArg (Value.int _) (by omega))), (by first | rfl | exact congrArg some (congrArg (Value.int _) (by omega))), trivial⟩, ?_, ?_, ?_, ?_⟩, ?_⟩
        · exact hS.eqM rfl
        · omega
        · rw [h2]; rfl
        · rw [List.length_append, List.length_singleton]; omega
        · dsimp only; omega
      · refine W.exit ?_
        refine k_then_exit ?_
        refine k_then_exit ?_
        refine k_blk ?_
        refine k_seq ?_
        replace hf : Fr a 64 [] [(3, .int .i64 least), (4, .pointer (some ⟨b_f1, 0, none⟩)), (8, .slice none 0 0), (9, .int .i64 0), (11, vi)] := hf.to ⟨rfl, rfl, rfl, rfl, rfl, trivial⟩
        refine W.seq ?_
        -- region 11
        refine W.regionL (l := [0, 1, 2, 3, 4, 5]) rfl ?_
        refine O.val hf rfl rfl rfl (RunV.loadN (cs' := #[.int .i64 fW, .int .i64 fH, vP]) T_agg_24 T_size_24 rfl (hS.ptAt (i := 1) rfl) (Nat.le_of_ble_eq_true rfl) rfl) ?_
        clear hf a; intro a hf
        refine O.val hf rfl rfl rfl (RunV.move rfl) ?_
        clear hf a; intro a hf
        refine O.val hf rfl rfl rfl (RunV.move rfl) ?_
        clear hf a; intro a hf
        obtain ⟨hf1, hf2, hf3, hf4, hf5, hf6⟩ := hfo
        have hw : fW = ((fW.toNat : Nat) : Int) := by omega
        have hh : fH = ((fH.toNat : Nat) : Int) := by omega
        have hnn : zs.length = fW.toNat * fH.toNat := by rw [hw, hh] at hf5; exact_mod_cast hf5
        obtain rfl : k = zs.length := by omega
        subst h2
        have he0 : Det.partsE fW fH zs bs thr least = 0 := by unfold Det.partsE; rw [if_pos ⟨hf1, hf2, hf3, hf4, hf5, hf6⟩, if_pos (by omega)]
        have hr0 : Det.partsR fW fH zs bs thr least = (Det.partsF fW.toNat fH.toNat least (Det.bright zs bs thr zs.length) (Det.bright zs bs thr zs.length).length).2 := by unfold Det.partsR; rw [if_pos he0, Det.bright_len]
        rw [hw, hh] at hf
        refine O.callR hf rfl rfl rfl (RunE.call (av := #[.agg #[.int .i64 (fW.toNat : Int), .int .i64 (fH.toNat : Int), vP], vi, .int .i64 least]) C_ok_14 rfl rfl rfl) (parts13_spec fW.toNat fH.toNat least vP vi zs (Det.bright zs bs thr zs.length) _ (by omega) (by omega) hnn (by rw [Det.bright_len]; exact hnn) (hS.rdAt (j := 0) rfl) (hS.slr (j := 0) rfl)) ?_
        clear hf a
        rintro ⟨vo, vs⟩ w12 hS1 a hf
        replace hf : Fr a _ _ ((63, vo) :: _) := hf
        replace hS := (hS.call hS1).eqM (N := [sl 46 1 vo vs.length vs, inn vs (Det.partsF fW.toNat fH.toNat least (Det.bright zs bs thr zs.length) (Det.bright zs bs thr zs.length).length).2, sl 4 1 vi ((Det.bright zs bs thr zs.length).length) (bools (Det.bright zs bs thr zs.length)), pt b_f1 (.cells #[.int .i64 fW, .int .i64 fH, vP] 24 (0, 0))]) rfl
        clear hS1
        refine O.val hf rfl rfl rfl (RunV.assign rfl) ?_
        clear hf a; intro a hf
        refine O.val hf rfl rfl rfl (RunV.assign rfl) ?_
        clear hf a; intro a hf
        refine O.nil ?_
        refine k_seq ?_
        replace hf : Fr a 64 [] [(8, vo), (9, .int .i64 0)] := hf.to ⟨rfl, rfl, trivial⟩
        refine W.ret ?_
        refine post2 hf rfl (ResOK.tmp rfl) (ResOK.tmp rfl) ?_
        replace hS := hS.front (i := 1) (M' := [inn vs (Det.partsF fW.toNat fH.toNat least (Det.bright zs bs thr zs.length) (Det.bright zs bs thr zs.length).length).2, sl 46 1 vo vs.length vs, sl 4 1 vi ((Det.bright zs bs thr zs.length).length) (bools (Det.bright zs bs thr zs.length)), pt b_f1 (.cells #[.int .i64 fW, .int .i64 fH, vP] 24 (0, 0))]) rfl rfl
        replace hS := hS.front (i := 1) (M' := [sl 46 1 vo vs.length vs, inn vs (Det.partsF fW.toNat fH.toNat least (Det.bright zs bs thr zs.length) (Det.bright zs bs thr zs.length).length).2, sl 4 1 vi ((Det.bright zs bs thr zs.length).length) (bools (Det.bright zs bs thr zs.length)), pt b_f1 (.cells #[.int .i64 fW, .int .i64 fH, vP] 24 (0, 0))]) rfl rfl
        refine ⟨(vo, vs), by rw [he0], ?_⟩
        rw [hr0]
        exact (hS.sub (.cons_cons _ (.cons_cons _ (.cons _ (.cons _ .slnil))))).noB

set_option maxHeartbeats 400000 in
set_option maxRecDepth 4000 in
theorem parts6_spec (fW fH thr least : Int) (vP vB : Value) (zs : List Int) (bs : List Bool) (w0 : World) [Decidable (Det.fieldOK fW fH zs)] (hP : rdOK (hp w0) 1 vP zs.length (ints zs)) (hB : rdOK (hp w0) 1 vB bs.length (bools bs)) :
    Ret Try.prog 6 #[.agg #[.int .i64 fW, .int .i64 fH, vP], vB, .int .i64 thr, .int .i64 least] w0 (G := Value × List Value) (fun g => .tuple #[g.1, .int .i64 (Det.partsE fW fH zs bs thr least)]) (fun g w => St w0 w noX [] [sl 46 1 g.1 g.2.length g.2, inn g.2 (Det.partsR fW fH zs bs thr least)]) := by
  refine ret_of_W (lv := [.agg #[.int .i64 fW, .int .i64 fH, vP], vB, .int .i64 thr, .int .i64 least]) Try.func6 rfl rfl rfl (fun a hf => ?_)
  replace hf : Fr a 64 [] [(0, .agg #[.int .i64 fW, .int .i64 fH, vP]), (1, vB), (2, .int .i64 thr), (3, .int .i64 least)] := hf
  have hS : St w0 w0 noX [rdv 1 vP zs.length (ints zs), rdv 1 vB bs.length (bools bs)] [] := ((St.refl w0).lend0 hB).lend0 hP
  have hlen := hP.2.1
  unfold maxLen at hlen
  refine W.seq ?_
  -- region 0
  refine W.regionL (l := [0, 1, 2]) rfl ?_
  refine O.box (cs := #[.int .i64 fW, .int .i64 fH, vP]) hf hS rfl rfl rfl rfl ?_
  clear hf hS a; intro b_f1 w a hbb_f1 hS hf
  refine O.val hf rfl rfl rfl (RunV.assign rfl) ?_
  clear hf a; intro a hf
  refine O.val hf rfl rfl rfl (RunV.assign rfl) ?_
  clear hf a; intro a hf
  refine O.nil ?_
  refine k_seq ?_
  replace hf : Fr a 64 [] [(1, vB), (2, .int .i64 thr), (3, .int .i64 least), (4, .pointer (some ⟨b_f1, 0, none⟩)), (8, .slice none 0 0), (9, .int .i64 0)] := hf.to ⟨rfl, rfl, rfl, rfl, rfl, rfl, trivial⟩
  refine W.seq ?_
  refine W.seq ?_
  -- region 1
  refine W.regionL (l := [0, 1, 2]) rfl ?_
  refine O.val hf rfl rfl rfl (RunV.loadN (cs' := #[.int .i64 fW, .int .i64 fH, vP]) T_agg_24 T_size_24 rfl (hS.ptAt (i := 0) rfl) (Nat.le_of_ble_eq_true rfl) rfl) ?_
  clear hf a; intro a hf
  refine O.callR hf rfl rfl rfl (RunE.call (av := #[.agg #[.int .i64 fW, .int .i64 fH, vP]]) C_ok_11 rfl rfl rfl) (check11_spec fW fH vP zs _ (hS.rdAt (j := 0) rfl)) ?_
  clear hf a
  rintro _ w2 hS1 a hf
  replace hf : Fr a _ _ ((15, .int .i64 (if Det.fieldOK fW fH zs then 0 else 8)) :: _) := hf
  replace hS := (hS.call hS1).eqM (N := [pt b_f1 (.cells #[.int .i64 fW, .int .i64 fH, vP] 24 (0, 0))]) rfl
  clear hS1
  refine O.val hf rfl rfl rfl (RunV.assign rfl) ?_
  clear hf a; intro a hf
  refine O.nil ?_
  refine k_seq ?_
  replace hf : Fr a 64 [] [(1, vB), (2, .int .i64 thr), (3, .int .i64 least), (4, .pointer (some ⟨b_f1, 0, none⟩)), (8, .slice none 0 0), (9, .int .i64 0), (10, .int .i64 (if Det.fieldOK fW fH zs then 0 else 8))] := hf.to ⟨rfl, rfl, rfl, rfl, rfl, rfl, rfl, trivial⟩
  refine W.seq ?_
  -- region 2
  refine W.regionL (l := [0, 1]) rfl ?_
  refine O.val hf rfl rfl rfl (RunV.move rfl) ?_
  clear hf a; intro a hf
  refine O.val (v := .bool (decide ((if Det.fieldOK fW fH zs then 0 else 8) ≠ (0 : Int)))) hf rfl rfl rfl (RunV.neq rfl rfl) ?_
  clear hf a; intro a hf
  refine O.nil ?_
  refine k_seq ?_
  replace hf : Fr a 64 [] [(1, vB), (2, .int .i64 thr), (3, .int .i64 least), (4, .pointer (some ⟨b_f1, 0, none⟩)), (8, .slice none 0 0), (9, .int .i64 0), (10, .int .i64 (if Det.fieldOK fW fH zs then 0 else 8)), (17, .bool (decide ((if Det.fieldOK fW fH zs then 0 else 8) ≠ (0 : Int))))] := hf.to ⟨rfl, rfl, rfl, rfl, rfl, rfl, rfl, rfl, trivial⟩
  refine W.ifdI hf rfl (fun hce => ?_) (fun hce => ?_)
  · have hfo : ¬ Det.fieldOK fW fH zs := fun h => hce (if_pos h)
    refine W.seq ?_
    -- region 3
    refine W.regionL (l := [0, 1, 2]) rfl ?_
    refine O.val hf rfl rfl rfl (RunV.move rfl) ?_
    clear hf a; intro a hf
    refine O.val hf rfl rfl rfl (RunV.assign rfl) ?_
    clear hf a; intro a hf
    refine O.val hf rfl rfl rfl (RunV.assign rfl) ?_
    clear hf a; intro a hf
    refine O.nil ?_
    refine k_seq ?_
    replace hf : Fr a 64 [] [(1, vB), (2, .int .i64 thr), (3, .int .i64 least), (4, .pointer (some ⟨b_f1, 0, none⟩)), (8, .slice none 0 0), (9, .int .i64 (if Det.fieldOK fW fH zs then 0 else 8))] := hf.to ⟨rfl, rfl, rfl, rfl, rfl, rfl, trivial⟩
    refine W.ret ?_
    refine k_then_ret ?_
    refine post2 hf rfl (ResOK.tmp rfl) (ResOK.tmp rfl) ?_
    have he : Det.partsE fW fH zs bs thr least = 8 := by unfold Det.partsE; rw [if_neg hfo]
    have hr : Det.partsR fW fH zs bs thr least = [] := by unfold Det.partsR; rw [if_neg (by rw [he]; decide)]
    refine ⟨(.slice none 0 0, []), by rw [he, if_neg hfo], ?_⟩
    rw [hr]
    exact St.pushSl (hS.sub (List.nil_sublist _) |>.noB) 46
  · have hfo : Det.fieldOK fW fH zs := Classical.byContradiction fun h => hce (by rw [if_neg h]; decide)
    have hzl := Det.field_len hfo
    refine W.skip ?_
    refine k_seq ?_
    replace hf : Fr a 64 [] [(1, vB), (2, .int .i64 thr), (3, .int .i64 least), (4, .pointer (some ⟨b_f1, 0, none⟩)), (8, .slice none 0 0), (9, .int .i64 0)] := hf.to ⟨rfl, rfl, rfl, rfl, rfl, rfl, trivial⟩
    refine W.seq ?_
    refine W.seq ?_
    -- region 4
    refine W.regionL (l := [0, 1, 2, 3, 4, 5, 6, 7, 8, 9, 10, 11, 12, 13, 14, 15, 16, 17]) rfl ?_
    refine O.val hf rfl rfl rfl (RunV.move rfl) ?_
    clear hf a; intro a hf
    refine O.val hf rfl rfl rfl (RunV.lenV (e := 4) (by simpa using T_elem_25) rfl (hS.rdAt (j := 1) rfl)) ?_
    clear hf a; intro a hf
    refine O.val hf rfl rfl rfl (RunV.field T_field_24_2 rfl rfl) ?_
    clear hf a; intro a hf
    refine O.val hf rfl rfl rfl (RunV.load1 T_agg_22 rfl (hS.ptAt (i := 0) rfl) rfl) ?_
    clear hf a; intro a hf
    refine O.val hf rfl rfl rfl (RunV.lenV (e := 2) (by simpa using T_elem_22) rfl (hS.rdAt (j := 0) rfl)) ?_
    clear hf a; intro a hf
    refine O.val (v := .bool (decide ((bs.length : Int) ≠ ((zs.length : Int) : Int)))) hf rfl rfl rfl (RunV.neq rfl rfl) ?_
    clear hf a; intro a hf
    refine O.val hf rfl rfl rfl (RunV.move rfl) ?_
    clear hf a; intro a hf
    -- a guarded part
    refine O.cutN (l₁ := [7, 8, 9]) (l₂ := _) (fun a w => Fr a 64 [] [(1, vB), (2, .int .i64 thr), (3, .int .i64 least), (4, .pointer (some ⟨b_f1, 0, none⟩)), (8, .slice none 0 0), (9, .int .i64 0), (19, vB), (20, .int .i64 (bs.length : Int)), (21, .pointer (some ⟨b_f1, 2, none⟩)), (22, vP), (23, .int .i64 (zs.length : Int)), (24, .bool (decide ((bs.length : Int) ≠ ((zs.length : Int) : Int)))), (25, .bool (decide ((bs.length : Int) ≠ ((zs.length : Int) : Int)))), (28, .bool ((decide ((bs.length : Int) ≠ ((zs.length : Int) : Int))) || (decide (thr < (-4294967296 : Int)))))] ∧ St w0 w noX [rdv 1 vP zs.length (ints zs), rdv 1 vB bs.length (bools bs)] [pt b_f1 (.cells #[.int .i64 fW, .int .i64 fH, vP] 24 (0, 0))]) rfl ?_ ?_
    · rcases Bool.eq_false_or_eq_true (decide ((bs.length : Int) ≠ ((zs.length : Int) : Int))) with hb4 | hb4
      · have hb4p := of_decide_eq_true hb4
        refine O.skipB hf rfl rfl rfl hb4 rfl ?_; clear hf a; intro a hf
        refine O.skipB hf rfl rfl rfl hb4 rfl ?_; clear hf a; intro a hf
        refine O.val (v := .bool ((decide ((bs.length : Int) ≠ ((zs.length : Int) : Int))) || (decide (thr < (-4294967296 : Int))))) hf rfl rfl rfl (RunV.pick rfl rfl rfl (by rw [hb4]; rfl)) ?_; clear hf a; intro a hf
        exact O.nil ⟨rfl, hf.to ⟨rfl, rfl, rfl, rfl, rfl, rfl, rfl, rfl, rfl, rfl, rfl, rfl, rfl, rfl, trivial⟩, hS⟩
      · have hb4p := of_decide_eq_false hb4
        refine O.gvalB (v := .int .i64 thr) hf rfl rfl rfl hb4 rfl rfl (RunV.move rfl) ?_
        clear hf a; intro a hf
        refine O.gvalB (v := .bool (decide (thr < (-4294967296 : Int)))) hf rfl rfl rfl hb4 rfl rfl (RunV.lss rfl rfl) ?_
        clear hf a; intro a hf
        refine O.val (v := .bool ((decide ((bs.length : Int) ≠ ((zs.length : Int) : Int))) || (decide (thr < (-4294967296 : Int))))) hf rfl rfl rfl (RunV.pick rfl rfl rfl (by rw [hb4]; rfl)) ?_; clear hf a; intro a hf
        exact O.nil ⟨rfl, hf.to ⟨rfl, rfl, rfl, rfl, rfl, rfl, rfl, rfl, rfl, rfl, rfl, rfl, rfl, rfl, trivial⟩, hS⟩
    clear hf hS a; rintro a w ⟨hf, hS⟩
    refine O.val hf rfl rfl rfl (RunV.move rfl) ?_
    clear hf a; intro a hf
    -- a guarded part
    refine O.cutN (l₁ := [11, 12, 13]) (l₂ := _) (fun a w => Fr a 64 [] [(1, vB), (2, .int .i64 thr), (3, .int .i64 least), (4, .pointer (some ⟨b_f1, 0, none⟩)), (8, .slice none 0 0), (9, .int .i64 0), (19, vB), (20, .int .i64 (bs.length : Int)), (21, .pointer (some ⟨b_f1, 2, none⟩)), (22, vP), (23, .int .i64 (zs.length : Int)), (24, .bool (decide ((bs.length : Int) ≠ ((zs.length : Int) : Int)))), (25, .bool (decide ((bs.length : Int) ≠ ((zs.length : Int) : Int)))), (28, .bool ((decide ((bs.length : Int) ≠ ((zs.length : Int) : Int))) || (decide (thr < (-4294967296 : Int))))), (29, .bool ((decide ((bs.length : Int) ≠ ((zs.length : Int) : Int))) || (decide (thr < (-4294967296 : Int))))), (32, .bool (((decide ((bs.length : Int) ≠ ((zs.length : Int) : Int))) || (decide (thr < (-4294967296 : Int)))) || (decide (thr > (4294967296 : Int)))))] ∧ St w0 w noX [rdv 1 vP zs.length (ints zs), rdv 1 vB bs.length (bools bs)] [pt b_f1 (.cells #[.int .i64 fW, .int .i64 fH, vP] 24 (0, 0))]) rfl ?_ ?_
    · rcases Bool.eq_false_or_eq_true ((decide ((bs.length : Int) ≠ ((zs.length : Int) : Int))) || (decide (thr < (-4294967296 : Int)))) with hb5 | hb5
      · have hb5p := hb5
        try simp only [Bool.and_eq_true, Bool.or_eq_true, Bool.and_eq_false_iff, Bool.or_eq_false_iff, decide_eq_true_eq, decide_eq_false_iff_not, Bool.not_eq_true', Bool.not_eq_false', Bool.not_eq_true, Bool.not_eq_false, ne_eq] at hb5p
        refine O.skipB hf rfl rfl rfl hb5 rfl ?_; clear hf a; intro a hf
        refine O.skipB hf rfl rfl rfl hb5 rfl ?_; clear hf a; intro a hf
        refine O.val (v := .bool (((decide ((bs.length : Int) ≠ ((zs.length : Int) : Int))) || (decide (thr < (-4294967296 : Int)))) || (decide (thr > (4294967296 : Int))))) hf rfl rfl rfl (RunV.pick rfl rfl rfl (by rw [hb5]; rfl)) ?_; clear hf a; intro a hf
        exact O.nil ⟨rfl, hf.to ⟨rfl, rfl, rfl, rfl, rfl, rfl, rfl, rfl, rfl, rfl, rfl, rfl, rfl, rfl, rfl, rfl, trivial⟩, hS⟩
      · have hb5p := hb5
        try simp only [Bool.and_eq_true, Bool.or_eq_true, Bool.and_eq_false_iff, Bool.or_eq_false_iff, decide_eq_true_eq, decide_eq_false_iff_not, Bool.not_eq_true', Bool.not_eq_false', Bool.not_eq_true, Bool.not_eq_false, ne_eq] at hb5p
        refine O.gvalB (v := .int .i64 thr) hf rfl rfl rfl hb5 rfl rfl (RunV.move rfl) ?_
        clear hf a; intro a hf
        refine O.gvalB (v := .bool (decide (thr > (4294967296 : Int)))) hf rfl rfl rfl hb5 rfl rfl (RunV.gtr rfl rfl) ?_
        clear hf a; intro a hf
        refine O.val (v := .bool (((decide ((bs.length : Int) ≠ ((zs.length : Int) : Int))) || (decide (thr < (-4294967296 : Int)))) || (decide (thr > (4294967296 : Int))))) hf rfl rfl rfl (RunV.pick rfl rfl rfl (by rw [hb5]; rfl)) ?_; clear hf a; intro a hf
        exact O.nil ⟨rfl, hf.to ⟨rfl, rfl, rfl, rfl, rfl, rfl, rfl, rfl, rfl, rfl, rfl, rfl, rfl, rfl, rfl, rfl, trivial⟩, hS⟩
    clear hf hS a; rintro a w ⟨hf, hS⟩
    refine O.val hf rfl rfl rfl (RunV.move rfl) ?_
    clear hf a; intro a hf
    -- a guarded part
    refine O.cutN (l₁ := [15, 16, 17]) (l₂ := _) (fun a w => Fr a 64 [] [(1, vB), (2, .int .i64 thr), (3, .int .i64 least), (4, .pointer (some ⟨b_f1, 0, none⟩)), (8, .slice none 0 0), (9, .int .i64 0), (19, vB), (20, .int .i64 (bs.length : Int)), (21, .pointer (some ⟨b_f1, 2, none⟩)), (22, vP), (23, .int .i64 (zs.length : Int)), (24, .bool (decide ((bs.length : Int) ≠ ((zs.length : Int) : Int)))), (25, .bool (decide ((bs.length : Int) ≠ ((zs.length : Int) : Int)))), (28, .bool ((decide ((bs.length : Int) ≠ ((zs.length : Int) : Int))) || (decide (thr < (-4294967296 : Int))))), (29, .bool ((decide ((bs.length : Int) ≠ ((zs.length : Int) : Int))) || (decide (thr < (-4294967296 : Int))))), (32, .bool (((decide ((bs.length : Int) ≠ ((zs.length : Int) : Int))) || (decide (thr < (-4294967296 : Int)))) || (decide (thr > (4294967296 : Int))))), (33, .bool (((decide ((bs.length : Int) ≠ ((zs.length : Int) : Int))) || (decide (thr < (-4294967296 : Int)))) || (decide (thr > (4294967296 : Int))))), (36, .bool ((((decide ((bs.length : Int) ≠ ((zs.length : Int) : Int))) || (decide (thr < (-4294967296 : Int)))) || (decide (thr > (4294967296 : Int)))) || (decide (least < (1 : Int)))))] ∧ St w0 w noX [rdv 1 vP zs.length (ints zs), rdv 1 vB bs.length (bools bs)] [pt b_f1 (.cells #[.int .i64 fW, .int .i64 fH, vP] 24 (0, 0))]) rfl ?_ ?_
    · rcases Bool.eq_false_or_eq_true (((decide ((bs.length : Int) ≠ ((zs.length : Int) : Int))) || (decide (thr < (-4294967296 : Int)))) || (decide (thr > (4294967296 : Int)))) with hb6 | hb6
      · have hb6p := hb6
        try simp only [Bool.and_eq_true, Bool.or_eq_true, Bool.and_eq_false_iff, Bool.or_eq_false_iff, decide_eq_true_eq, decide_eq_false_iff_not, Bool.not_eq_true', Bool.not_eq_false', Bool.not_eq_true, Bool.not_eq_false, ne_eq] at hb6p
        refine O.skipB hf rfl rfl rfl hb6 rfl ?_; clear hf a; intro a hf
        refine O.skipB hf rfl rfl rfl hb6 rfl ?_; clear hf a; intro a hf
        refine O.val (v := .bool ((((decide ((bs.length : Int) ≠ ((zs.length : Int) : Int))) || (decide (thr < (-4294967296 : Int)))) || (decide (thr > (4294967296 : Int)))) || (decide (least < (1 : Int))))) hf rfl rfl rfl (RunV.pick rfl rfl rfl (by rw [hb6]; rfl)) ?_; clear hf a; intro a hf
        exact O.nil ⟨rfl, hf.to ⟨rfl, rfl, rfl, rfl, rfl, rfl, rfl, rfl, rfl, rfl, rfl, rfl, rfl, rfl, rfl, rfl, rfl, rfl, trivial⟩, hS⟩
      · have hb6p := hb6
        try simp only [Bool.and_eq_true, Bool.or_eq_true, Bool.and_eq_false_iff, Bool.or_eq_false_iff, decide_eq_true_eq, decide_eq_false_iff_not, Bool.not_eq_true', Bool.not_eq_false', Bool.not_eq_true, Bool.not_eq_false, ne_eq] at hb6p
        refine O.gvalB (v := .int .i64 least) hf rfl rfl rfl hb6 rfl rfl (RunV.move rfl) ?_
        clear hf a; intro a hf
        refine O.gvalB (v := .bool (decide (least < (1 : Int)))) hf rfl rfl rfl hb6 rfl rfl (RunV.lss rfl rfl) ?_
        clear hf a; intro a hf
        refine O.val (v := .bool ((((decide ((bs.length : Int) ≠ ((zs.length : Int) : Int))) || (decide (thr < (-4294967296 : Int)))) || (decide (thr > (4294967296 : Int)))) || (decide (least < (1 : Int))))) hf rfl rfl rfl (RunV.pick rfl rfl rfl (by rw [hb6]; rfl)) ?_; clear hf a; intro a hf
        exact O.nil ⟨rfl, hf.to ⟨rfl, rfl, rfl, rfl, rfl, rfl, rfl, rfl, rfl, rfl, rfl, rfl, rfl, rfl, rfl, rfl, rfl, rfl, trivial⟩, hS⟩
    clear hf hS a; rintro a w ⟨hf, hS⟩
    refine O.nil ?_
    refine k_seq ?_
    replace hf : Fr a 64 [] [(1, vB), (2, .int .i64 thr), (3, .int .i64 least), (4, .pointer (some ⟨b_f1, 0, none⟩)), (8, .slice none 0 0), (9, .int .i64 0), (36, .bool ((((decide ((bs.length : Int) ≠ ((zs.length : Int) : Int))) || (decide (thr < (-4294967296 : Int)))) || (decide (thr > (4294967296 : Int)))) || (decide (least < (1 : Int)))))] := hf.to ⟨rfl, rfl, rfl, rfl, rfl, rfl, rfl, trivial⟩
    refine W.if_ hf rfl (fun hca => ?_) (fun hca => ?_)
    · have hcab := hca
      try simp only [Bool.and_eq_true, Bool.or_eq_true, Bool.and_eq_false_iff, Bool.or_eq_false_iff, decide_eq_true_eq, decide_eq_false_iff_not, Bool.not_eq_true', Bool.not_eq_false', Bool.not_eq_true, Bool.not_eq_false, ne_eq] at hca
      refine W.seq ?_
      -- region 5
      refine W.regionL (l := [0, 1]) rfl ?_
      refine O.val hf rfl rfl rfl (RunV.assign rfl) ?_
      clear hf a; intro a hf
      refine O.val hf rfl rfl rfl (RunV.assign rfl) ?_
      clear hf a; intro a hf
      refine O.nil ?_
      refine k_seq ?_
      refine W.ret ?_
      refine k_then_ret ?_
      refine post2 hf rfl (ResOK.tmp rfl) (ResOK.tmp rfl) ?_
      have he : Det.partsE fW fH zs bs thr least = 2 := by unfold Det.partsE; rw [if_pos hfo, if_neg (fun h => by omega)]
      have hr : Det.partsR fW fH zs bs thr least = [] := by unfold Det.partsR; rw [if_neg (by rw [he]; decide)]
      refine ⟨(.slice none 0 0, []), by rw [he], ?_⟩
      rw [hr]
      exact St.pushSl (hS.sub (List.nil_sublist _) |>.noB) 46
    · have hcab := hca
      try simp only [Bool.and_eq_true, Bool.or_eq_true, Bool.and_eq_false_iff, Bool.or_eq_false_iff, decide_eq_true_eq, decide_eq_false_iff_not, Bool.not_eq_true', Bool.not_eq_false', Bool.not_eq_true, Bool.not_eq_false, ne_eq] at hca
      refine W.skip ?_
      refine k_seq ?_
      refine W.seq ?_
      -- region 6
      refine W.regionL (l := [0, 1]) rfl ?_
      refine O.makeMap hf hS rfl rfl (List.replicate zs.length false) (Det.rep_get _) ?_
      clear hf hS a; intro b_m8 w a hbb_m8 hS hf
      refine O.val hf rfl rfl rfl (RunV.assign rfl) ?_
      clear hf a; intro a hf
      refine O.nil ?_
      refine k_seq ?_
      replace hf : Fr a 64 [] [(1, vB), (2, .int .i64 thr), (3, .int .i64 least), (4, .pointer (some ⟨b_f1, 0, none⟩)), (8, .slice none 0 0), (9, .int .i64 0), (11, .map (some b_m8))] := hf.to ⟨rfl, rfl, rfl, rfl, rfl, rfl, rfl, trivial⟩
      refine W.seq ?_
      refine W.seq ?_
      -- region 7
      refine W.regionL (l := [0, 1, 2, 3]) rfl ?_
      refine O.val hf rfl rfl rfl (RunV.field T_field_24_2 rfl rfl) ?_
      clear hf a; intro a hf
      refine O.val hf rfl rfl rfl (RunV.load1 T_agg_22 rfl (hS.ptAt (i := 1) rfl) rfl) ?_
      clear hf a; intro a hf
      refine O.val hf rfl rfl rfl (RunV.lenV (e := 2) (by simpa using T_elem_22) rfl (hS.rdAt (j := 0) rfl)) ?_
      clear hf a; intro a hf
      refine O.val hf rfl rfl rfl (RunV.move rfl) ?_
      clear hf a; intro a hf
      refine O.nil ?_
      refine k_seq ?_
      replace hf : Fr a 64 [] [(1, vB), (2, .int .i64 thr), (3, .int .i64 least), (4, .pointer (some ⟨b_f1, 0, none⟩)), (8, .slice none 0 0), (9, .int .i64 0), (11, .map (some b_m8)), (39, vP), (40, .int .i64 (zs.length : Int)), (41, .int .i64 0)] := hf.to ⟨rfl, rfl, rfl, rfl, rfl, rfl, rfl, rfl, rfl, rfl, trivial⟩
      refine W.block ?_
      -- loop 0
      refine W.loop (G := (Nat) × (List Bool)) (fun g a w => match g with | (k, in1) => Fr a 64 [] [(1, vB), (2, .int .i64 thr), (3, .int .i64 least), (4, .pointer (some ⟨b_f1, 0, none⟩)), (8, .slice none 0 0), (9, .int .i64 0), (11, .map (some b_m8)), (39, vP), (40, .int .i64 (zs.length : Int)), (41, .int .i64 (k : Int))] ∧ St w0 w noX [rdv 1 vP zs.length (ints zs), rdv 1 vB bs.length (bools bs)] [ms b_m8 in1, pt b_f1 (.cells #[.int .i64 fW, .int .i64 fH, vP] 24 (0, 0))] ∧ (k ≤ zs.length) ∧ (in1 = Det.bright zs bs thr k ++ List.replicate (zs.length - k) false) ∧ (in1.length = zs.length)) (fun g => match g with | (k, in1) => zs.length - k) (0, (List.replicate zs.length false)) ?_ ?_
      · refine ⟨hf.to ⟨rfl, rfl, rfl, rfl, rfl, rfl, rfl, rfl, rfl, (by first | rfl | exact congrArg some (congrArg (Value.int _) (by omega))), trivial⟩, hS, ?_, ?_, ?_⟩
        · omega
        · rfl
        · simp
      clear hf hS a
      rintro ⟨k, in1⟩ a w ⟨hf, hS, h1, h2, h3⟩
      refine W.seq ?_
      -- region 8
      refine W.regionL (l := [0]) rfl ?_
      refine O.val (v := .bool (decide ((k : Int) < ((zs.length : Int) : Int)))) hf rfl rfl rfl (RunV.lss rfl rfl) ?_
      clear hf a; intro a hf
      refine O.nil ?_
      refine k_seq ?_
      refine W.seq ?_
      refine W.ifdI hf rfl (fun hk => ?_) (fun hk => ?_)
      · refine W.skip ?_
        refine k_seq ?_
        refine W.seq ?_
        refine W.block ?_
        refine W.seq ?_
        -- region 9
        refine W.regionL (l := [0, 1, 2, 3, 4]) rfl ?_
        refine O.val hf rfl rfl rfl (RunV.move rfl) ?_
        clear hf a; intro a hf
        refine O.val hf rfl rfl rfl (RunV.ixV (j := k) (m := k) T_elem_22 T_size_2 rfl rfl (hS.rdAt (j := 0) rfl) rfl (by omega) (Nat.mul_one _)) ?_
        clear hf a; intro a hf
        refine O.val hf rfl rfl rfl (RunV.ld1 T_agg_2 rfl (hS.rdAt (j := 0) rfl) (ints_get (by omega))) ?_
        clear hf a; intro a hf
        refine O.val hf rfl rfl rfl (RunV.assign rfl) ?_
        clear hf a; intro a hf
        refine O.val hf rfl rfl rfl (RunV.assign rfl) ?_
        clear hf a; intro a hf
        refine O.nil ?_
        refine k_seq ?_
        replace hf : Fr a 64 [] [(1, vB), (2, .int .i64 thr), (3, .int .i64 least), (4, .pointer (some ⟨b_f1, 0, none⟩)), (8, .slice none 0 0), (9, .int .i64 0), (11, .map (some b_m8)), (12, .int .i64 (k : Int)), (13, .int .i64 (zs.getD k 0)), (39, vP), (40, .int .i64 (zs.length : Int)), (41, .int .i64 (k : Int))] := hf.to ⟨rfl, rfl, rfl, rfl, rfl, rfl, rfl, rfl, rfl, rfl, rfl, rfl, trivial⟩
        refine W.seq ?_
        -- region 10
        refine W.regionL (l := [0, 1, 2, 3, 4, 5, 6, 7, 8, 9]) rfl ?_
        refine O.val hf rfl rfl rfl (RunV.move rfl) ?_
        clear hf a; intro a hf
        refine O.val hf rfl rfl rfl (RunV.move rfl) ?_
        clear hf a; intro a hf
        refine O.val hf rfl rfl rfl (RunV.ixV (j := k) (m := k) T_elem_25 T_size_4 rfl rfl (hS.rdAt (j := 1) rfl) rfl (by omega) (Nat.mul_one _)) ?_
        clear hf a; intro a hf
        refine O.val hf rfl rfl rfl (RunV.ld1 T_agg_4 rfl (hS.rdAt (j := 1) rfl) (bools_get (by omega))) ?_
        clear hf a; intro a hf
        refine O.val (v := .bool (!(bs.getD k false))) hf rfl rfl rfl (RunV.not rfl) ?_
        clear hf a; intro a hf
        refine O.val hf rfl rfl rfl (RunV.move rfl) ?_
        clear hf a; intro a hf
        -- a guarded part
        refine O.cutN (l₁ := [6, 7, 8, 9]) (l₂ := _) (fun a w => Fr a 64 [] [(1, vB), (2, .int .i64 thr), (3, .int .i64 least), (4, .pointer (some ⟨b_f1, 0, none⟩)), (8, .slice none 0 0), (9, .int .i64 0), (11, .map (some b_m8)), (12, .int .i64 (k : Int)), (13, .int .i64 (zs.getD k 0)), (39, vP), (40, .int .i64 (zs.length : Int)), (41, .int .i64 (k : Int)), (46, vB), (47, .int .i64 (k : Int)), (48, ix vB k), (49, .bool (bs.getD k false)), (50, .bool (!(bs.getD k false))), (51, .bool (!(bs.getD k false))), (55, .bool ((!(bs.getD k false)) && (decide ((zs.getD k 0) ≥ (thr : Int)))))] ∧ St w0 w noX [rdv 1 vP zs.length (ints zs), rdv 1 vB bs.length (bools bs)] [ms b_m8 in1, pt b_f1 (.cells #[.int .i64 fW, .int .i64 fH, vP] 24 (0, 0))]) rfl ?_ ?_
        · rcases Bool.eq_false_or_eq_true (!(bs.getD k false)) with hb10 | hb10
          · have hb10p := hb10
            try simp only [Bool.and_eq_true, Bool.or_eq_true, Bool.and_eq_false_iff, Bool.or_eq_false_iff, decide_eq_true_eq, decide_eq_false_iff_not, Bool.not_eq_true', Bool.not_eq_false', Bool.not_eq_true, Bool.not_eq_false, ne_eq] at hb10p
            refine O.gvalB (v := .int .i64 (zs.getD k 0)) hf rfl rfl rfl hb10 rfl rfl (RunV.move rfl) ?_
            clear hf a; intro a hf
            refine O.gvalB (v := .int .i64 thr) hf rfl rfl rfl hb10 rfl rfl (RunV.move rfl) ?_
            clear hf a; intro a hf
            refine O.gvalB (v := .bool (decide ((zs.getD k 0) ≥ (thr : Int)))) hf rfl rfl rfl hb10 rfl rfl (RunV.geq rfl rfl) ?_
            clear hf a; intro a hf
            refine O.val (v := .bool ((!(bs.getD k false)) && (decide ((zs.getD k 0) ≥ (thr : Int))))) hf rfl rfl rfl (RunV.pick rfl rfl rfl (by rw [hb10]; rfl)) ?_; clear hf a; intro a hf
            exact O.nil ⟨rfl, hf.to ⟨rfl, rfl, rfl, rfl, rfl, rfl, rfl, rfl, rfl, rfl, rfl, rfl, rfl, rfl, rfl, rfl, rfl, rfl, rfl, trivial⟩, hS⟩
          · have hb10p := hb10
            try simp only [Bool.and_eq_true, Bool.or_eq_true, Bool.and_eq_false_iff, Bool.or_eq_false_iff, decide_eq_true_eq, decide_eq_false_iff_not, Bool.not_eq_true', Bool.not_eq_false', Bool.not_eq_true, Bool.not_eq_false, ne_eq] at hb10p
            refine O.skipB hf rfl rfl rfl hb10 rfl ?_; clear hf a; intro a hf
            refine O.skipB hf rfl rfl rfl hb10 rfl ?_; clear hf a; intro a hf
            refine O.skipB hf rfl rfl rfl hb10 rfl ?_; clear hf a; intro a hf
            refine O.val (v := .bool ((!(bs.getD k false)) && (decide ((zs.getD k 0) ≥ (thr : Int))))) hf rfl rfl rfl (RunV.pick rfl rfl rfl (by rw [hb10]; rfl)) ?_; clear hf a; intro a hf
            exact O.nil ⟨rfl, hf.to ⟨rfl, rfl, rfl, rfl, rfl, rfl, rfl, rfl, rfl, rfl, rfl, rfl, rfl, rfl, rfl, rfl, rfl, rfl, rfl, trivial⟩, hS⟩
        clear hf hS a; rintro a w ⟨hf, hS⟩
        refine O.nil ?_
        refine k_seq ?_
        replace hf : Fr a 64 [] [(1, vB), (2, .int .i64 thr), (3, .int .i64 least), (4, .pointer (some ⟨b_f1, 0, none⟩)), (8, .slice none 0 0), (9, .int .i64 0), (11, .map (some b_m8)), (12, .int .i64 (k : Int)), (13, .int .i64 (zs.getD k 0)), (39, vP), (40, .int .i64 (zs.length : Int)), (41, .int .i64 (k : Int)), (55, .bool ((!(bs.getD k false)) && (decide ((zs.getD k 0) ≥ (thr : Int)))))] := hf.to ⟨rfl, rfl, rfl, rfl, rfl, rfl, rfl, rfl, rfl, rfl, rfl, rfl, rfl, trivial⟩
        refine W.if_ hf rfl (fun hbr => ?_) (fun hbr => ?_)
        · have hbrb := hbr
          try simp only [Bool.and_eq_true, Bool.or_eq_true, Bool.and_eq_false_iff, Bool.or_eq_false_iff, decide_eq_true_eq, decide_eq_false_iff_not, Bool.not_eq_true', Bool.not_eq_false', Bool.not_eq_true, Bool.not_eq_false, ne_eq] at hbr
          -- region 11
          refine W.regionL (l := [0, 1, 2]) rfl ?_
          refine O.val hf rfl rfl rfl (RunV.move rfl) ?_
          clear hf a; intro a hf
          refine O.val hf rfl rfl rfl (RunV.move rfl) ?_
          clear hf a; intro a hf
          refine O.mapSet (j := 0) hf hS rfl T_set_40 rfl rfl rfl rfl (by omega) rfl ?_
          clear hS; intro w hS
          refine O.nil ?_
          refine k_blk_normal ?_
          refine k_seq ?_
          replace hf : Fr a 64 [] [(1, vB), (2, .int .i64 thr), (3, .int .i64 least), (4, .pointer (some ⟨b_f1, 0, none⟩)), (8, .slice none 0 0), (9, .int .i64 0), (11, .map (some b_m8)), (12, .int .i64 (k : Int)), (13, .int .i64 (zs.getD k 0)), (39, vP), (40, .int .i64 (zs.length : Int)), (41, .int .i64 (k : Int))] := hf.to ⟨rfl, rfl, rfl, rfl, rfl, rfl, rfl, rfl, rfl, rfl, rfl, rfl, trivial⟩
          -- region 12
          refine W.regionL (l := [0, 1]) rfl ?_
          refine O.val hf rfl rfl rfl (RunV.addI rfl rfl (by omega)) ?_
          clear hf a; intro a hf
          refine O.val hf rfl rfl rfl (RunV.move rfl) ?_
          clear hf a; intro a hf
          refine O.nil ?_
          refine k_then ⟨(k + 1, in1.set k true), ⟨hf.to ⟨rfl, rfl, rfl, rfl, rfl, rfl, rfl, rfl, rfl, (by first | rfl | exact congrArg some (congrArg (Value.int _) (by omega))), trivial⟩, ?_, ?_, ?_, ?_⟩, ?_⟩
          · exact hS.eqM rfl
          · omega
          · rw [h2]; exact Det.bright_in (by omega) hbrb
          · rw [List.length_set]; exact h3
          · dsimp only; omega
        · have hbrb := hbr
          try simp only [Bool.and_eq_true, Bool.or_eq_true, Bool.and_eq_false_iff, Bool.or_eq_false_iff, decide_eq_true_eq, decide_eq_false_iff_not, Bool.not_eq_true', Bool.not_eq_false', Bool.not_eq_true, Bool.not_eq_false, ne_eq] at hbr
          refine W.skip ?_
          refine k_blk_normal ?_
          refine k_seq ?_
          -- region 12
          refine W.regionL (l := [0, 1]) rfl ?_
          refine O.val hf rfl rfl rfl (RunV.addI rfl rfl (by omega)) ?_
          clear hf a; intro a hf
          refine O.val hf rfl rfl rfl (RunV.move rfl) ?_
          clear hf a; intro a hf
          refine O.nil ?_
          refine k_then ⟨(k + 1, in1), ⟨hf.to ⟨rfl, rfl, rfl, rfl, rfl, rfl, rfl, rfl, rfl, (by first | rfl | exact congrArg some (congrArg (Value.int _) (by omega))), trivial⟩, ?_, ?_, ?_, ?_⟩, ?_⟩
          · exact hS.eqM rfl
          · omega
          · rw [h2]; exact Det.bright_no (by omega) hbrb
          · exact h3
          · dsimp only; omega
      · refine W.exit ?_
        refine k_then_exit ?_
        refine k_then_exit ?_
        refine k_blk ?_
        refine k_seq ?_
        replace hf : Fr a 64 [] [(3, .int .i64 least), (4, .pointer (some ⟨b_f1, 0, none⟩)), (8, .slice none 0 0), (9, .int .i64 0), (11, .map (some b_m8))] := hf.to ⟨rfl, rfl, rfl, rfl, rfl, trivial⟩
        refine W.seq ?_
        -- region 13
        refine W.regionL (l := [0, 1, 2, 3, 4, 5, 6]) rfl ?_
        refine O.val hf rfl rfl rfl (RunV.loadN (cs' := #[.int .i64 fW, .int .i64 fH, vP]) T_agg_24 T_size_24 rfl (hS.ptAt (i := 1) rfl) (Nat.le_of_ble_eq_true rfl) rfl) ?_
        clear hf a; intro a hf
        refine O.val hf rfl rfl rfl (RunV.buildS (cs' := #[.int .i64 fW, .int .i64 fH, vP]) T_places_42 T_zero_42 rfl rfl) ?_
        clear hf a; intro a hf
        refine O.val hf rfl rfl rfl (RunV.move rfl) ?_
        clear hf a; intro a hf
        refine O.val hf rfl rfl rfl (RunV.move rfl) ?_
        clear hf a; intro a hf
        obtain ⟨hf1, hf2, hf3, hf4, hf5, hf6⟩ := hfo
        have hw : fW = ((fW.toNat : Nat) : Int) := by omega
        have hh : fH = ((fH.toNat : Nat) : Int) := by omega
        have hnn : zs.length = fW.toNat * fH.toNat := by rw [hw, hh] at hf5; exact_mod_cast hf5
        obtain rfl : k = zs.length := by omega
        replace h2 : in1 = (Det.bright zs bs thr zs.length) := by rw [h2]; simp
        subst h2
        have he0 : Det.partsE fW fH zs bs thr least = 0 := by unfold Det.partsE; rw [if_pos ⟨hf1, hf2, hf3, hf4, hf5, hf6⟩, if_pos (by omega)]
        have hr0 : Det.partsR fW fH zs bs thr least = (Det.partsF fW.toNat fH.toNat least (Det.bright zs bs thr zs.length) (Det.bright zs bs thr zs.length).length).2 := by unfold Det.partsR; rw [if_pos he0, Det.bright_len]
        rw [hw, hh] at hf
        refine O.callR hf rfl rfl rfl (RunE.call (av := #[.agg #[.int .i64 (fW.toNat : Int), .int .i64 (fH.toNat : Int), vP], .map (some b_m8), .int .i64 least]) C_ok_12 rfl rfl rfl) (parts12_spec fW.toNat fH.toNat b_m8 least vP (Det.bright zs bs thr zs.length) _ (by omega) (by omega) (by rw [Det.bright_len]; exact hnn) (hS.msAt (j := 0) rfl)) ?_
        clear hf a
        rintro ⟨vo, vs⟩ w12 hS1 a hf
        replace hf : Fr a _ _ ((63, vo) :: _) := hf
        replace hS := (hS.callX1 hS1 (i := 0) rfl (fun _ h => h)).eqM (N := [sl 46 1 vo vs.length vs, inn vs (Det.partsF fW.toNat fH.toNat least (Det.bright zs bs thr zs.length) (Det.bright zs bs thr zs.length).length).2, pt b_f1 (.cells #[.int .i64 fW, .int .i64 fH, vP] 24 (0, 0))]) rfl
        clear hS1
        refine O.val hf rfl rfl rfl (RunV.assign rfl) ?_
        clear hf a; intro a hf
        refine O.val hf rfl rfl rfl (RunV.assign rfl) ?_
        clear hf a; intro a hf
        refine O.nil ?_
        refine k_seq ?_
        replace hf : Fr a 64 [] [(8, vo), (9, .int .i64 0)] := hf.to ⟨rfl, rfl, trivial⟩
        refine W.ret ?_
        refine post2 hf rfl (ResOK.tmp rfl) (ResOK.tmp rfl) ?_
        replace hS := hS.front (i := 1) (M' := [inn vs (Det.partsF fW.toNat fH.toNat least (Det.bright zs bs thr zs.length) (Det.bright zs bs thr zs.length).length).2, sl 46 1 vo vs.length vs, pt b_f1 (.cells #[.int .i64 fW, .int .i64 fH, vP] 24 (0, 0))]) rfl rfl
        replace hS := hS.front (i := 1) (M' := [sl 46 1 vo vs.length vs, inn vs (Det.partsF fW.toNat fH.toNat least (Det.bright zs bs thr zs.length) (Det.bright zs bs thr zs.length).length).2, pt b_f1 (.cells #[.int .i64 fW, .int .i64 fH, vP] 24 (0, 0))]) rfl rfl
        refine ⟨(vo, vs), by rw [he0], ?_⟩
        rw [hr0]
        exact (hS.sub (.cons_cons _ (.cons_cons _ (.cons _ .slnil)))).noB

set_option maxHeartbeats 400000 in
set_option maxRecDepth 4000 in
theorem sameSets_spec (va vb : Value) (vs us : List Value) (xss yss : List (List Int)) (w0 : World) (ha : rdOK (hp w0) 1 va vs.length vs) (hb : rdOK (hp w0) 1 vb us.length us) (hia : innOK (hp w0) vs xss) (hib : innOK (hp w0) us yss) :
    Ret Try.prog 8 #[va, vb] w0 (G := Unit) (fun _ => .bool (decide (xss = yss))) (fun _ w => St w0 w noX [] []) := by
  refine ret_of_W (lv := [va, vb]) Try.func8 rfl rfl rfl (fun a hf => ?_)
  replace hf : Fr a 53 [] [(0, va), (1, vb)] := hf
  have hS : St w0 w0 noX [rdv 1 va vs.length vs, rdv 1 vb us.length us, inn vs xss, inn us yss] [] := ((((St.refl w0).lendI0 hib).lendI0 hia).lend0 hb).lend0 ha
  have hl1 := ha.2.1
  unfold maxLen at hl1
  have hl2 := hia.1
  have hl3 := hib.1
  refine W.seq ?_
  -- region 0
  refine W.regionL (l := [0]) rfl ?_
  refine O.val hf rfl rfl rfl (RunV.assign rfl) ?_
  clear hf a; intro a hf
  refine O.nil ?_
  refine k_seq ?_
  refine W.seq ?_
  refine W.seq ?_
  -- region 1
  refine W.regionL (l := [0, 1, 2, 3, 4]) rfl ?_
  refine O.val hf rfl rfl rfl (RunV.move rfl) ?_
  clear hf a; intro a hf
  refine O.val hf rfl rfl rfl (RunV.lenV (e := 46) (by simpa using T_elem_28) rfl (hS.rdAt (j := 0) rfl)) ?_
  clear hf a; intro a hf
  refine O.val hf rfl rfl rfl (RunV.move rfl) ?_
  clear hf a; intro a hf
  refine O.val hf rfl rfl rfl (RunV.lenV (e := 46) (by simpa using T_elem_28) rfl (hS.rdAt (j := 1) rfl)) ?_
  clear hf a; intro a hf
  refine O.val (v := .bool (decide ((vs.length : Int) ≠ ((us.length : Int) : Int)))) hf rfl rfl rfl (RunV.neq rfl rfl) ?_
  clear hf a; intro a hf
  refine O.nil ?_
  refine k_seq ?_
  replace hf : Fr a 53 [] [(0, va), (1, vb), (4, .bool false), (11, .bool (decide ((vs.length : Int) ≠ ((us.length : Int) : Int))))] := hf.to ⟨rfl, rfl, rfl, rfl, trivial⟩
  refine W.ifdI hf rfl (fun hne => ?_) (fun hne => ?_)
  · refine W.seq ?_
    -- region 2
    refine W.regionL (l := [0]) rfl ?_
    refine O.val hf rfl rfl rfl (RunV.assign rfl) ?_
    clear hf a; intro a hf
    refine O.nil ?_
    refine k_seq ?_
    refine W.ret ?_
    refine k_then_ret ?_
    refine post1 hf rfl (ResOK.tmp rfl) ?_
    refine ⟨(), by rw [show decide (xss = yss) = false from decide_eq_false (fun h => by subst h; omega)], hS.sub (List.nil_sublist _) |>.noB⟩
  · refine W.skip ?_
    refine k_seq ?_
    refine W.seq ?_
    refine W.seq ?_
    -- region 3
    refine W.regionL (l := [0]) rfl ?_
    refine O.val hf rfl rfl rfl (RunV.assign rfl) ?_
    clear hf a; intro a hf
    refine O.nil ?_
    refine k_seq ?_
    refine W.block ?_
    -- loop 0
    refine W.loop (G := (Nat)) (fun g a w => match g with | k => Fr a 53 [] [(0, va), (1, vb), (5, .int .i64 (k : Int))] ∧ St w0 w noX [rdv 1 va vs.length vs, rdv 1 vb us.length us, inn vs xss, inn us yss] [] ∧ (k ≤ vs.length) ∧ (∀ j, j < k → (xss.getD j []).length = (yss.getD j []).length ∧ ∀ q, q < (xss.getD j []).length → (xss.getD j []).getD q 0 = (yss.getD j []).getD q 0)) (fun g => match g with | k => vs.length - k) 0 ?_ ?_
    · refine ⟨hf.to ⟨rfl, rfl, (by first | rfl | exact congrArg some (congrArg (Value.int _) (by omega))), trivial⟩, hS, ?_, ?_⟩
      · omega
      · exact fun j hj => by omega
    clear hf hS a
    rintro k a w ⟨hf, hS, h1, h2⟩
    refine W.seq ?_
    refine W.seq ?_
    -- region 4
    refine W.regionL (l := [0, 1, 2, 3]) rfl ?_
    refine O.val hf rfl rfl rfl (RunV.move rfl) ?_
    clear hf a; intro a hf
    refine O.val hf rfl rfl rfl (RunV.move rfl) ?_
    clear hf a; intro a hf
    refine O.val hf rfl rfl rfl (RunV.lenV (e := 46) (by simpa using T_elem_28) rfl (hS.rdAt (j := 0) rfl)) ?_
    clear hf a; intro a hf
    refine O.val (v := .bool (decide ((k : Int) < ((vs.length : Int) : Int)))) hf rfl rfl rfl (RunV.lss rfl rfl) ?_
    clear hf a; intro a hf
    refine O.nil ?_
    refine k_seq ?_
    replace hf : Fr a 53 [] [(0, va), (1, vb), (5, .int .i64 (k : Int)), (15, .bool (decide ((k : Int) < ((vs.length : Int) : Int))))] := hf.to ⟨rfl, rfl, rfl, rfl, trivial⟩
    refine W.ifdI hf rfl (fun hk => ?_) (fun hk => ?_)
    · refine W.skip ?_
      refine k_seq ?_
      refine W.seq ?_
      refine W.block ?_
      refine W.seq ?_
      refine W.seq ?_
      -- region 6, which draws its order: quiet
      refine W.drawQ (fun w => St w0 w noX [rdv 1 va vs.length vs, rdv 1 vb us.length us, inn vs xss, inn us yss] []) P_mixed rfl (by kernel_rfl) rfl hS.drew ?_
      clear hS
      refine OQ.val (v := va) hf rfl (fun w hS => RunV.move rfl) ?_; clear hf a; intro a hf
      refine OQ.val (v := .int .i64 (k : Int)) hf rfl (fun w hS => RunV.move rfl) ?_; clear hf a; intro a hf
      refine OQ.val (v := ix va k) hf rfl (fun w hS => RunV.ixV (j := k) (m := k) T_elem_28 T_size_46 rfl rfl (hS.rdAt (j := 0) rfl) rfl (by omega) (Nat.mul_one _)) ?_; clear hf a; intro a hf
      refine OQ.val (v := (vs.getD k undef)) hf rfl (fun w hS => RunV.ld1 T_agg_46 rfl (hS.rdAt (j := 0) rfl) (vs_get (by omega))) ?_; clear hf a; intro a hf
      refine OQ.val (v := .int .i64 ((xss.getD k []).length : Int)) hf rfl (fun w hS => RunV.lenV (e := 3) (by simpa using T_elem_46) rfl (innOK.get (hS.innB (j := 2) rfl) (i := k) (by omega))) ?_; clear hf a; intro a hf
      refine OQ.val (v := vb) hf rfl (fun w hS => RunV.move rfl) ?_; clear hf a; intro a hf
      refine OQ.val (v := .int .i64 (k : Int)) hf rfl (fun w hS => RunV.move rfl) ?_; clear hf a; intro a hf
      refine OQ.val (v := ix vb k) hf rfl (fun w hS => RunV.ixV (j := k) (m := k) T_elem_28 T_size_46 rfl rfl (hS.rdAt (j := 1) rfl) rfl (by omega) (Nat.mul_one _)) ?_; clear hf a; intro a hf
      refine OQ.val (v := (us.getD k undef)) hf rfl (fun w hS => RunV.ld1 T_agg_46 rfl (hS.rdAt (j := 1) rfl) (vs_get (by omega))) ?_; clear hf a; intro a hf
      refine OQ.val (v := .int .i64 ((yss.getD k []).length : Int)) hf rfl (fun w hS => RunV.lenV (e := 3) (by simpa using T_elem_46) rfl (innOK.get (hS.innB (j := 3) rfl) (i := k) (by omega))) ?_; clear hf a; intro a hf
      refine OQ.val (v := .bool (decide (((xss.getD k []).length : Int) ≠ (((yss.getD k []).length : Int) : Int)))) hf rfl (fun w hS => RunV.neq rfl rfl) ?_; clear hf a; intro a hf
      refine OQ.nil ?_; intro w hS
      refine k_seq ?_
      replace hf : Fr a 53 [] [(0, va), (1, vb), (5, .int .i64 (k : Int)), (28, .bool (decide (((xss.getD k []).length : Int) ≠ (((yss.getD k []).length : Int) : Int))))] := hf.to ⟨rfl, rfl, rfl, rfl, trivial⟩
      refine W.ifdI hf rfl (fun hlen => ?_) (fun hlen => ?_)
      · refine W.seq ?_
        -- region 7
        refine W.regionL (l := [0]) rfl ?_
        refine O.val hf rfl rfl rfl (RunV.assign rfl) ?_
        clear hf a; intro a hf
        refine O.nil ?_
        refine k_seq ?_
        refine W.ret ?_
        refine k_then_ret ?_
        refine k_blk_ret ?_
        refine k_then_ret ?_
        refine k_then_ret ?_
        refine k_blk_ret ?_
        refine k_then_ret ?_
        refine post1 hf rfl (ResOK.tmp rfl) ?_
        refine ⟨(), by rw [show decide (xss = yss) = false from decide_eq_false (fun h => by subst h; omega)], hS.sub (List.nil_sublist _) |>.noB⟩
      · refine W.skip ?_
        refine k_seq ?_
        refine W.seq ?_
        -- region 8
        refine W.regionL (l := [0]) rfl ?_
        refine O.val hf rfl rfl rfl (RunV.assign rfl) ?_
        clear hf a; intro a hf
        refine O.nil ?_
        refine k_seq ?_
        refine W.block ?_
        -- loop 1
        refine W.loop (G := (Nat)) (fun g a w => match g with | q => Fr a 53 [] [(0, va), (1, vb), (5, .int .i64 (k : Int)), (6, .int .i64 (q : Int))] ∧ St w0 w noX [rdv 1 va vs.length vs, rdv 1 vb us.length us, inn vs xss, inn us yss] [] ∧ (q ≤ (xss.getD k []).length) ∧ (∀ j, j < q → (xss.getD k []).getD j 0 = (yss.getD k []).getD j 0)) (fun g => match g with | q => (xss.getD k []).length - q) 0 ?_ ?_
        · refine ⟨hf.to ⟨rfl, rfl, rfl, (by first | rfl | exact congrArg some (congrArg (Value.int _) (by omega))), trivial⟩, hS, ?_, ?_⟩
          · omega
          · exact fun j hj => by omega
        clear hf hS a
        rintro q a w ⟨hf, hS, h3, h4⟩
        refine W.seq ?_
        refine W.seq ?_
        -- region 9
        refine W.regionL (l := [0, 1, 2, 3, 4, 5, 6]) rfl ?_
        have hl4 := (hS.innB (j := 2) rfl).get (i := k) (by omega) |>.2.1; unfold maxLen at hl4
        refine O.val hf rfl rfl rfl (RunV.move rfl) ?_
        clear hf a; intro a hf
        refine O.val hf rfl rfl rfl (RunV.move rfl) ?_
        clear hf a; intro a hf
        refine O.val hf rfl rfl rfl (RunV.move rfl) ?_
        clear hf a; intro a hf
        refine O.val hf rfl rfl rfl (RunV.ixV (j := k) (m := k) T_elem_28 T_size_46 rfl rfl (hS.rdAt (j := 0) rfl) rfl (by omega) (Nat.mul_one _)) ?_
        clear hf a; intro a hf
        refine O.val hf rfl rfl rfl (RunV.ld1 T_agg_46 rfl (hS.rdAt (j := 0) rfl) (vs_get (by omega))) ?_
        clear hf a; intro a hf
        refine O.val hf rfl rfl rfl (RunV.lenV (e := 3) (by simpa using T_elem_46) rfl (innOK.get (hS.innB (j := 2) rfl) (i := k) (by omega))) ?_
        clear hf a; intro a hf
        refine O.val (v := .bool (decide ((q : Int) < (((xss.getD k []).length : Int) : Int)))) hf rfl rfl rfl (RunV.lss rfl rfl) ?_
        clear hf a; intro a hf
        refine O.nil ?_
        refine k_seq ?_
        replace hf : Fr a 53 [] [(0, va), (1, vb), (5, .int .i64 (k : Int)), (6, .int .i64 (q : Int)), (35, .bool (decide ((q : Int) < (((xss.getD k []).length : Int) : Int))))] := hf.to ⟨rfl, rfl, rfl, rfl, rfl, trivial⟩
        refine W.ifdI hf rfl (fun hq => ?_) (fun hq => ?_)
        · refine W.skip ?_
          refine k_seq ?_
          refine W.seq ?_
          refine W.block ?_
          refine W.seq ?_
          -- region 11, which draws its order: quiet
          refine W.drawQ (fun w => St w0 w noX [rdv 1 va vs.length vs, rdv 1 vb us.length us, inn vs xss, inn us yss] []) P_mixed rfl (by kernel_rfl) rfl hS.drew ?_
          clear hS
          refine OQ.val (v := va) hf rfl (fun w hS => RunV.move rfl) ?_; clear hf a; intro a hf
          refine OQ.val (v := .int .i64 (k : Int)) hf rfl (fun w hS => RunV.move rfl) ?_; clear hf a; intro a hf
          refine OQ.val (v := ix va k) hf rfl (fun w hS => RunV.ixV (j := k) (m := k) T_elem_28 T_size_46 rfl rfl (hS.rdAt (j := 0) rfl) rfl (by omega) (Nat.mul_one _)) ?_; clear hf a; intro a hf
          refine OQ.val (v := (vs.getD k undef)) hf rfl (fun w hS => RunV.ld1 T_agg_46 rfl (hS.rdAt (j := 0) rfl) (vs_get (by omega))) ?_; clear hf a; intro a hf
          refine OQ.val (v := .int .i64 (q : Int)) hf rfl (fun w hS => RunV.move rfl) ?_; clear hf a; intro a hf
          refine OQ.val (v := ix (vs.getD k undef) q) hf rfl (fun w hS => RunV.ixV (j := q) (m := q) T_elem_46 T_size_3 rfl rfl (innOK.get (hS.innB (j := 2) rfl) (i := k) (by omega)) rfl (by omega) (Nat.mul_one _)) ?_; clear hf a; intro a hf
          refine OQ.val (v := .int .i64 ((xss.getD k []).getD q 0)) hf rfl (fun w hS => RunV.ld1 T_agg_3 rfl (innOK.get (hS.innB (j := 2) rfl) (i := k) (by omega)) (ints_get (by omega))) ?_; clear hf a; intro a hf
          refine OQ.val (v := vb) hf rfl (fun w hS => RunV.move rfl) ?_; clear hf a; intro a hf
          refine OQ.val (v := .int .i64 (k : Int)) hf rfl (fun w hS => RunV.move rfl) ?_; clear hf a; intro a hf
          refine OQ.val (v := ix vb k) hf rfl (fun w hS => RunV.ixV (j := k) (m := k) T_elem_28 T_size_46 rfl rfl (hS.rdAt (j := 1) rfl) rfl (by omega) (Nat.mul_one _)) ?_; clear hf a; intro a hf
          refine OQ.val (v := (us.getD k undef)) hf rfl (fun w hS => RunV.ld1 T_agg_46 rfl (hS.rdAt (j := 1) rfl) (vs_get (by omega))) ?_; clear hf a; intro a hf
          refine OQ.val (v := .int .i64 (q : Int)) hf rfl (fun w hS => RunV.move rfl) ?_; clear hf a; intro a hf
          refine OQ.val (v := ix (us.getD k undef) q) hf rfl (fun w hS => RunV.ixV (j := q) (m := q) T_elem_46 T_size_3 rfl rfl (innOK.get (hS.innB (j := 3) rfl) (i := k) (by omega)) rfl (by omega) (Nat.mul_one _)) ?_; clear hf a; intro a hf
          refine OQ.val (v := .int .i64 ((yss.getD k []).getD q 0)) hf rfl (fun w hS => RunV.ld1 T_agg_3 rfl (innOK.get (hS.innB (j := 3) rfl) (i := k) (by omega)) (ints_get (by omega))) ?_; clear hf a; intro a hf
          refine OQ.val (v := .bool (decide (((xss.getD k []).getD q 0) ≠ ((yss.getD k []).getD q 0 : Int)))) hf rfl (fun w hS => RunV.neq rfl rfl) ?_; clear hf a; intro a hf
          refine OQ.nil ?_; intro w hS
          refine k_seq ?_
          replace hf : Fr a 53 [] [(0, va), (1, vb), (5, .int .i64 (k : Int)), (6, .int .i64 (q : Int)), (52, .bool (decide (((xss.getD k []).getD q 0) ≠ ((yss.getD k []).getD q 0 : Int))))] := hf.to ⟨rfl, rfl, rfl, rfl, rfl, trivial⟩
          refine W.ifdI hf rfl (fun hx => ?_) (fun hx => ?_)
          · refine W.seq ?_
            -- region 12
            refine W.regionL (l := [0]) rfl ?_
            refine O.val hf rfl rfl rfl (RunV.assign rfl) ?_
            clear hf a; intro a hf
            refine O.nil ?_
            refine k_seq ?_
            refine W.ret ?_
            refine k_blk_ret ?_
            refine k_then_ret ?_
            refine k_then_ret ?_
            refine k_blk_ret ?_
            refine k_blk_ret ?_
            refine k_then_ret ?_
            refine k_then_ret ?_
            refine k_blk_ret ?_
            refine k_then_ret ?_
            refine post1 hf rfl (ResOK.tmp rfl) ?_
            refine ⟨(), by rw [show decide (xss = yss) = false from decide_eq_false (fun h => by subst h; omega)], hS.sub (List.nil_sublist _) |>.noB⟩
          · refine W.skip ?_
            refine k_blk_normal ?_
            refine k_seq ?_
            -- region 10
            refine W.regionL (l := [0, 1, 2]) rfl ?_
            refine O.val hf rfl rfl rfl (RunV.move rfl) ?_
            clear hf a; intro a hf
            refine O.val hf rfl rfl rfl (RunV.addI rfl rfl (by omega)) ?_
            clear hf a; intro a hf
            refine O.val hf rfl rfl rfl (RunV.assign rfl) ?_
            clear hf a; intro a hf
            refine O.nil ?_
            refine k_then ⟨(q + 1), ⟨hf.to ⟨rfl, rfl, rfl, (by first | rfl | exact congrArg some (congrArg (Value.int _) (by omega))), trivial⟩, ?_, ?_, ?_⟩, ?_⟩
            · exact hS.eqM rfl
            · omega
            · exact Det.all_snoc h4 (by omega)
            · dsimp only; omega
        · refine W.exit ?_
          refine k_then_exit ?_
          refine k_then_exit ?_
          refine k_blk ?_
          refine k_blk_normal ?_
          refine k_seq ?_
          -- region 5
          refine W.regionL (l := [0, 1, 2]) rfl ?_
          refine O.val hf rfl rfl rfl (RunV.move rfl) ?_
          clear hf a; intro a hf
          refine O.val hf rfl rfl rfl (RunV.addI rfl rfl (by omega)) ?_
          clear hf a; intro a hf
          refine O.val hf rfl rfl rfl (RunV.assign rfl) ?_
          clear hf a; intro a hf
          refine O.nil ?_
          refine k_then ⟨(k + 1), ⟨hf.to ⟨rfl, rfl, (by first | rfl | exact congrArg some (congrArg (Value.int _) (by omega))), trivial⟩, ?_, ?_, ?_⟩, ?_⟩
          · exact hS.eqM rfl
          · omega
          · exact Det.all_snoc h2 ⟨by omega, fun q hq => h4 q (by omega)⟩
          · dsimp only; omega
    · refine W.exit ?_
      refine k_then_exit ?_
      refine k_then_exit ?_
      refine k_blk ?_
      refine k_seq ?_
      replace hf : Fr a 53 [] [] := hf.to trivial
      refine W.seq ?_
      -- region 13
      refine W.regionL (l := [0]) rfl ?_
      refine O.val hf rfl rfl rfl (RunV.assign rfl) ?_
      clear hf a; intro a hf
      refine O.nil ?_
      refine k_seq ?_
      refine W.ret ?_
      refine post1 hf rfl (ResOK.tmp rfl) ?_
      refine ⟨(), by rw [show decide (xss = yss) = true from decide_eq_true (Det.eq_of_sets (by omega) (fun j hj => (h2 j (by omega)).1) (fun j hj => (h2 j (by omega)).2))], hS.sub (List.nil_sublist _) |>.noB⟩

theorem sameSets_refl (va vb : Value) (vs us : List Value) (xss : List (List Int)) (w0 : World) (ha : rdOK (hp w0) 1 va vs.length vs) (hb : rdOK (hp w0) 1 vb us.length us) (hia : innOK (hp w0) vs xss) (hib : innOK (hp w0) us xss) :
    Ret Try.prog 8 #[va, vb] w0 (G := Unit) (fun _ => .bool true) (fun _ w => St w0 w noX [] []) := by
  have h := sameSets_spec va vb vs us xss xss w0 ha hb hia hib
  rw [show decide (xss = xss) = true from decide_eq_true rfl] at h
  exact h

theorem same10_refl (fW fH : Int) (vP vQ : Value) (zs : List Int) (w0 : World) (hP : rdOK (hp w0) 1 vP zs.length (ints zs)) (hQ : rdOK (hp w0) 1 vQ zs.length (ints zs)) :
    Ret Try.prog 9 #[.agg #[.int .i64 fW, .int .i64 fH, vP], .agg #[.int .i64 fW, .int .i64 fH, vQ]] w0 (G := Unit) (fun _ => .bool true) (fun _ w => St w0 w noX [] []) := by
  have h := same10_spec fW fH fW fH vP vQ zs zs w0 hP hQ
  rw [show Det.sameF fW fH zs fW fH zs = true from decide_eq_true ⟨rfl, rfl, rfl⟩] at h
  exact h

set_option maxHeartbeats 400000 in
set_option maxRecDepth 4000 in
theorem law_spec (fW fH thr least : Int) (vP vB : Value) (zs : List Int) (bs : List Bool) (w0 : World) [Decidable (Det.fieldOK fW fH zs)] (hP : rdOK (hp w0) 1 vP zs.length (ints zs)) (hB : rdOK (hp w0) 1 vB bs.length (bools bs)) :
    Ret Try.prog 3 #[.agg #[.int .i64 fW, .int .i64 fH, vP], vB, .int .i64 thr, .int .i64 least] w0 (G := Unit) (fun _ => .bool true) (fun _ w => St w0 w noX [] []) := by
  refine ret_of_W (lv := [.agg #[.int .i64 fW, .int .i64 fH, vP], vB, .int .i64 thr, .int .i64 least]) Try.func3 rfl rfl rfl (fun a hf => ?_)
  replace hf : Fr a 48 [] [(0, .agg #[.int .i64 fW, .int .i64 fH, vP]), (1, vB), (2, .int .i64 thr), (3, .int .i64 least)] := hf
  have hS : St w0 w0 noX [rdv 1 vP zs.length (ints zs), rdv 1 vB bs.length (bools bs)] [] := ((St.refl w0).lend0 hB).lend0 hP
  refine W.seq ?_
  -- region 0
  refine W.regionL (l := [0, 1]) rfl ?_
  refine O.box (cs := #[.int .i64 fW, .int .i64 fH, vP]) hf hS rfl rfl rfl rfl ?_
  clear hf hS a; intro b_f1 w a hbb_f1 hS hf
  refine O.val hf rfl rfl rfl (RunV.assign rfl) ?_
  clear hf a; intro a hf
  refine O.nil ?_
  refine k_seq ?_
  replace hf : Fr a 48 [] [(1, vB), (2, .int .i64 thr), (3, .int .i64 least), (4, .pointer (some ⟨b_f1, 0, none⟩)), (8, .bool false)] := hf.to ⟨rfl, rfl, rfl, rfl, rfl, trivial⟩
  refine W.seq ?_
  refine W.seq ?_
  -- region 1
  refine W.regionL (l := [0, 1, 2]) rfl ?_
  refine O.val hf rfl rfl rfl (RunV.loadN (cs' := #[.int .i64 fW, .int .i64 fH, vP]) T_agg_24 T_size_24 rfl (hS.ptAt (i := 0) rfl) (Nat.le_of_ble_eq_true rfl) rfl) ?_
  clear hf a; intro a hf
  refine O.val hf rfl rfl rfl (RunV.move rfl) ?_
  clear hf a; intro a hf
  refine O.callR hf rfl rfl rfl (RunE.call (av := #[.agg #[.int .i64 fW, .int .i64 fH, vP], vB]) C_ok_4 rfl rfl rfl) (great_spec fW fH vP vB zs bs _ (hS.rdAt (j := 0) rfl) (hS.rdAt (j := 1) rfl)) ?_
  clear hf a
  rintro _ w2 hS1 a hf
  replace hf : Fr a _ _ ((16, .bool (decide ((zs.length : Int) > 100) || decide ((bs.length : Int) > 120))) :: _) := hf
  replace hS := (hS.call hS1).eqM (N := [pt b_f1 (.cells #[.int .i64 fW, .int .i64 fH, vP] 24 (0, 0))]) rfl
  clear hS1
  refine O.nil ?_
  refine k_seq ?_
  replace hf : Fr a 48 [] [(1, vB), (2, .int .i64 thr), (3, .int .i64 least), (4, .pointer (some ⟨b_f1, 0, none⟩)), (8, .bool false), (16, .bool (decide ((zs.length : Int) > 100) || decide ((bs.length : Int) > 120)))] := hf.to ⟨rfl, rfl, rfl, rfl, rfl, rfl, trivial⟩
  refine W.if_ hf rfl (fun hgr => ?_) (fun hgr => ?_)
  · have hgrb := hgr
    try simp only [Bool.and_eq_true, Bool.or_eq_true, Bool.and_eq_false_iff, Bool.or_eq_false_iff, decide_eq_true_eq, decide_eq_false_iff_not, Bool.not_eq_true', Bool.not_eq_false', Bool.not_eq_true, Bool.not_eq_false, ne_eq] at hgr
    refine W.seq ?_
    -- region 2
    refine W.regionL (l := [0]) rfl ?_
    refine O.val hf rfl rfl rfl (RunV.assign rfl) ?_
    clear hf a; intro a hf
    refine O.nil ?_
    refine k_seq ?_
    refine W.ret ?_
    refine k_then_ret ?_
    refine post1 hf rfl (ResOK.tmp rfl) ?_
    refine ⟨(), ?_, hS.sub (List.nil_sublist _) |>.noB⟩
    first | rfl | simp
  · have hgrb := hgr
    try simp only [Bool.and_eq_true, Bool.or_eq_true, Bool.and_eq_false_iff, Bool.or_eq_false_iff, decide_eq_true_eq, decide_eq_false_iff_not, Bool.not_eq_true', Bool.not_eq_false', Bool.not_eq_true, Bool.not_eq_false, ne_eq] at hgr
    refine W.skip ?_
    refine k_seq ?_
    refine W.seq ?_
    -- region 3
    refine W.regionL (l := [0, 1, 2, 3]) rfl ?_
    refine O.val hf rfl rfl rfl (RunV.loadN (cs' := #[.int .i64 fW, .int .i64 fH, vP]) T_agg_24 T_size_24 rfl (hS.ptAt (i := 0) rfl) (Nat.le_of_ble_eq_true rfl) rfl) ?_
    clear hf a; intro a hf
    refine O.callR hf rfl rfl rfl (RunE.call (av := #[.agg #[.int .i64 fW, .int .i64 fH, vP]]) C_ok_5 rfl rfl rfl) (twin10_spec fW fH vP zs _ (by omega) (hS.rdAt (j := 0) rfl)) ?_
    clear hf a
    rintro vt w4 hS1 a hf
    replace hf : Fr a _ _ ((18, .agg #[.int .i64 fW, .int .i64 fH, vt]) :: _) := hf
    replace hS := (hS.call hS1).eqM (N := [sl 2 1 vt zs.length (ints zs), pt b_f1 (.cells #[.int .i64 fW, .int .i64 fH, vP] 24 (0, 0))]) rfl
    clear hS1
    refine O.alloc (cs := #[.int .i64 0, .int .i64 0, .slice none 0 0]) hf hS rfl rfl T_zero_24 rfl ?_
    clear hf hS a; intro b_was5 w a hbb_was5 hS hf
    have hcl6 := rdOK.cells (hS.slr (j := 1) rfl)
    refine O.store (j := 0) (cs' := #[.int .i64 fW, .int .i64 fH, vt]) (M' := [pt b_was5 (.cells #[.int .i64 fW, .int .i64 fH, vt] 24 (0, 0)), sl 2 1 vt zs.length (ints zs), pt b_f1 (.cells #[.int .i64 fW, .int .i64 fH, vP] 24 (0, 0))]) hf hS rfl rfl rfl T_size_24 rfl (oneCells_cc rfl (oneCells_cc rfl (oneCells_cc hcl6.2 rfl))) rfl (Nat.le_of_ble_eq_true rfl) rfl rfl ?_
    clear hS; intro w hS
    refine O.nil ?_
    refine k_seq ?_
    replace hf : Fr a 48 [] [(1, vB), (2, .int .i64 thr), (3, .int .i64 least), (4, .pointer (some ⟨b_f1, 0, none⟩)), (8, .bool false), (9, .pointer (some ⟨b_was5, 0, none⟩))] := hf.to ⟨rfl, rfl, rfl, rfl, rfl, rfl, trivial⟩
    refine W.seq ?_
    -- region 4
    refine W.regionL (l := [0, 1, 2, 3, 4, 5, 6, 7, 8, 9]) rfl ?_
    refine O.val hf rfl rfl rfl (RunV.loadN (cs' := #[.int .i64 fW, .int .i64 fH, vP]) T_agg_24 T_size_24 rfl (hS.ptAt (i := 2) rfl) (Nat.le_of_ble_eq_true rfl) rfl) ?_
    clear hf a; intro a hf
    refine O.val hf rfl rfl rfl (RunV.move rfl) ?_
    clear hf a; intro a hf
    refine O.val hf rfl rfl rfl (RunV.move rfl) ?_
    clear hf a; intro a hf
    refine O.val hf rfl rfl rfl (RunV.move rfl) ?_
    clear hf a; intro a hf
    refine O.callR hf rfl rfl rfl (RunE.call (av := #[.agg #[.int .i64 fW, .int .i64 fH, vP], vB, .int .i64 thr, .int .i64 least]) C_ok_6 rfl rfl rfl) (parts6_spec fW fH thr least vP vB zs bs _ (hS.rdAt (j := 0) rfl) (hS.rdAt (j := 1) rfl)) ?_
    clear hf a
    rintro ⟨va, vs⟩ w7 hS1 a hf
    replace hf : Fr a _ _ ((24, .tuple #[va, .int .i64 (Det.partsE fW fH zs bs thr least)]) :: _) := hf
    replace hS := (hS.call hS1).eqM (N := [sl 46 1 va vs.length vs, inn vs (Det.partsR fW fH zs bs thr least), pt b_was5 (.cells #[.int .i64 fW, .int .i64 fH, vt] 24 (0, 0)), sl 2 1 vt zs.length (ints zs), pt b_f1 (.cells #[.int .i64 fW, .int .i64 fH, vP] 24 (0, 0))]) rfl
    clear hS1
    refine O.val hf rfl rfl rfl (RunV.move rfl) ?_
    clear hf a; intro a hf
    refine O.val hf rfl rfl rfl (RunV.extract rfl rfl) ?_
    clear hf a; intro a hf
    refine O.val hf rfl rfl rfl (RunV.extract rfl rfl) ?_
    clear hf a; intro a hf
    refine O.val hf rfl rfl rfl (RunV.assign rfl) ?_
    clear hf a; intro a hf
    refine O.val hf rfl rfl rfl (RunV.assign rfl) ?_
    clear hf a; intro a hf
    refine O.nil ?_
    refine k_seq ?_
    replace hf : Fr a 48 [] [(1, vB), (2, .int .i64 thr), (3, .int .i64 least), (4, .pointer (some ⟨b_f1, 0, none⟩)), (8, .bool false), (9, .pointer (some ⟨b_was5, 0, none⟩)), (10, va), (11, .int .i64 (Det.partsE fW fH zs bs thr least))] := hf.to ⟨rfl, rfl, rfl, rfl, rfl, rfl, rfl, rfl, trivial⟩
    refine W.seq ?_
    -- region 5
    refine W.regionL (l := [0, 1, 2, 3, 4, 5, 6, 7, 8, 9]) rfl ?_
    refine O.val hf rfl rfl rfl (RunV.loadN (cs' := #[.int .i64 fW, .int .i64 fH, vt]) T_agg_24 T_size_24 rfl (hS.ptAt (i := 2) rfl) (Nat.le_of_ble_eq_true rfl) rfl) ?_
    clear hf a; intro a hf
    refine O.val hf rfl rfl rfl (RunV.move rfl) ?_
    clear hf a; intro a hf
    refine O.val hf rfl rfl rfl (RunV.move rfl) ?_
    clear hf a; intro a hf
    refine O.val hf rfl rfl rfl (RunV.move rfl) ?_
    clear hf a; intro a hf
    refine O.callR hf rfl rfl rfl (RunE.call (av := #[.agg #[.int .i64 fW, .int .i64 fH, vt], vB, .int .i64 thr, .int .i64 least]) C_ok_7 rfl rfl rfl) (parts7_spec fW fH thr least vt vB zs bs _ (hS.slr (j := 3) rfl) (hS.rdAt (j := 1) rfl)) ?_
    clear hf a
    rintro ⟨vb, us⟩ w8 hS1 a hf
    replace hf : Fr a _ _ ((32, .tuple #[vb, .int .i64 (Det.partsE fW fH zs bs thr least)]) :: _) := hf
    replace hS := (hS.call hS1).eqM (N := [sl 46 1 vb us.length us, inn us (Det.partsR fW fH zs bs thr least), sl 46 1 va vs.length vs, inn vs (Det.partsR fW fH zs bs thr least), pt b_was5 (.cells #[.int .i64 fW, .int .i64 fH, vt] 24 (0, 0)), sl 2 1 vt zs.length (ints zs), pt b_f1 (.cells #[.int .i64 fW, .int .i64 fH, vP] 24 (0, 0))]) rfl
    clear hS1
    refine O.val hf rfl rfl rfl (RunV.move rfl) ?_
    clear hf a; intro a hf
    refine O.val hf rfl rfl rfl (RunV.extract rfl rfl) ?_
    clear hf a; intro a hf
    refine O.val hf rfl rfl rfl (RunV.extract rfl rfl) ?_
    clear hf a; intro a hf
    refine O.val hf rfl rfl rfl (RunV.assign rfl) ?_
    clear hf a; intro a hf
    refine O.val hf rfl rfl rfl (RunV.assign rfl) ?_
    clear hf a; intro a hf
    refine O.nil ?_
    refine k_seq ?_
    replace hf : Fr a 48 [] [(4, .pointer (some ⟨b_f1, 0, none⟩)), (8, .bool false), (9, .pointer (some ⟨b_was5, 0, none⟩)), (10, va), (11, .int .i64 (Det.partsE fW fH zs bs thr least)), (12, vb), (13, .int .i64 (Det.partsE fW fH zs bs thr least))] := hf.to ⟨rfl, rfl, rfl, rfl, rfl, rfl, rfl, trivial⟩
    refine W.seq ?_
    -- region 6
    refine W.regionL (l := [0, 1, 2, 3, 4, 5, 6, 7, 8, 9, 10, 11, 12, 13]) rfl ?_
    refine O.val hf rfl rfl rfl (RunV.move rfl) ?_
    clear hf a; intro a hf
    refine O.val hf rfl rfl rfl (RunV.move rfl) ?_
    clear hf a; intro a hf
    refine O.callR hf rfl rfl rfl (RunE.call (av := #[va, vb]) C_ok_8 rfl rfl rfl) (sameSets_refl va vb vs us (Det.partsR fW fH zs bs thr least) _ (hS.slr (j := 2) rfl) (hS.slr (j := 0) rfl) (hS.innAt (j := 3) rfl) (hS.innAt (j := 1) rfl)) ?_
    clear hf a
    rintro _ w9 hS1 a hf
    replace hf : Fr a _ _ ((37, .bool true) :: _) := hf
    replace hS := (hS.call hS1).eqM (N := [sl 46 1 vb us.length us, inn us (Det.partsR fW fH zs bs thr least), sl 46 1 va vs.length vs, inn vs (Det.partsR fW fH zs bs thr least), pt b_was5 (.cells #[.int .i64 fW, .int .i64 fH, vt] 24 (0, 0)), sl 2 1 vt zs.length (ints zs), pt b_f1 (.cells #[.int .i64 fW, .int .i64 fH, vP] 24 (0, 0))]) rfl
    clear hS1
    refine O.val hf rfl rfl rfl (RunV.move rfl) ?_
    clear hf a; intro a hf
    refine O.gvalB (v := .int .i64 (Det.partsE fW fH zs bs thr least)) hf rfl rfl rfl rfl rfl rfl (RunV.move rfl) ?_
    clear hf a; intro a hf
    refine O.gvalB (v := .int .i64 (Det.partsE fW fH zs bs thr least)) hf rfl rfl rfl rfl rfl rfl (RunV.move rfl) ?_
    clear hf a; intro a hf
    refine O.gvalB (v := .bool (decide ((Det.partsE fW fH zs bs thr least) = (Det.partsE fW fH zs bs thr least : Int)))) hf rfl rfl rfl rfl rfl rfl (RunV.eql rfl rfl) ?_
    clear hf a; intro a hf
    refine O.val (v := .bool (decide ((Det.partsE fW fH zs bs thr least) = (Det.partsE fW fH zs bs thr least : Int)))) hf rfl rfl rfl (RunV.pick rfl rfl rfl rfl) ?_
    clear hf a; intro a hf
    refine O.val hf rfl rfl rfl (RunV.move rfl) ?_
    clear hf a; intro a hf
    have hbg : (decide ((Det.partsE fW fH zs bs thr least) = (Det.partsE fW fH zs bs thr least : Int))) = true := (by simp)
    simp only [hbg] at hf; clear hbg
    refine O.gvalB (v := .agg #[.int .i64 fW, .int .i64 fH, vP]) hf rfl rfl rfl rfl rfl rfl (RunV.loadN (cs' := #[.int .i64 fW, .int .i64 fH, vP]) T_agg_24 T_size_24 rfl (hS.ptAt (i := 6) rfl) (Nat.le_of_ble_eq_true rfl) rfl) ?_
    clear hf a; intro a hf
    refine O.gvalB (v := .agg #[.int .i64 fW, .int .i64 fH, vt]) hf rfl rfl rfl rfl rfl rfl (RunV.loadN (cs' := #[.int .i64 fW, .int .i64 fH, vt]) T_agg_24 T_size_24 rfl (hS.ptAt (i := 4) rfl) (Nat.le_of_ble_eq_true rfl) rfl) ?_
    clear hf a; intro a hf
    refine O.gcallR hf rfl rfl rfl rfl rfl rfl (RunE.call (av := #[.agg #[.int .i64 fW, .int .i64 fH, vP], .agg #[.int .i64 fW, .int .i64 fH, vt]]) C_ok_9 rfl rfl rfl) (same10_refl fW fH vP vt zs _ (hS.rdAt (j := 0) rfl) (hS.slr (j := 5) rfl)) ?_
    clear hf a
    rintro _ w10 hS1 a hf
    replace hf : Fr a _ _ ((46, .bool true) :: _) := hf
    replace hS := (hS.call hS1).eqM (N := [sl 46 1 vb us.length us, inn us (Det.partsR fW fH zs bs thr least), sl 46 1 va vs.length vs, inn vs (Det.partsR fW fH zs bs thr least), pt b_was5 (.cells #[.int .i64 fW, .int .i64 fH, vt] 24 (0, 0)), sl 2 1 vt zs.length (ints zs), pt b_f1 (.cells #[.int .i64 fW, .int .i64 fH, vP] 24 (0, 0))]) rfl
    clear hS1
    refine O.val (v := .bool true) hf rfl rfl rfl (RunV.pick rfl rfl rfl rfl) ?_
    clear hf a; intro a hf
    refine O.val hf rfl rfl rfl (RunV.assign rfl) ?_
    clear hf a; intro a hf
    refine O.nil ?_
    refine k_seq ?_
    replace hf : Fr a 48 [] [(8, .bool true)] := hf.to ⟨rfl, trivial⟩
    refine W.ret ?_
    refine post1 hf rfl (ResOK.tmp rfl) ?_
    refine ⟨(), ?_, hS.sub (List.nil_sublist _) |>.noB⟩
    first | rfl | simp
end Go.Proofs.Ytediaapijdojfaa
