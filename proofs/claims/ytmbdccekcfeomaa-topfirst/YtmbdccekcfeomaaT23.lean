/- The rules of stepping, as constants. -/
import Derived.Test.YtmbdccekcfeomaaT21
import Derived.Test.YtmbdccekcfeomaaT22
section
open Go
namespace Go.Proofs.Ytmbdccekcfeomaa.Am
set_option maxRecDepth 20000
set_option linter.defProp false
def sd0 := And.intro @W_seqK (And.intro @NextK_normal (And.intro @NextK_exit (And.intro @NextK_ret (And.intro @W_skip (And.intro @W_exit (And.intro @W_ret (And.intro @W_block (And.intro @W_regionK (And.intro @W_drawK (And.intro @W_condK (And.intro @Next_normal (And.intro @Next_exit (And.intro @Next_ret (And.intro @Out_normal (And.intro @Out_here (And.intro @Out_exit (And.intro @Out_ret (And.intro @Ends_normal (And.intro @Ends_ret (And.intro @DK_nil (And.intro @DK_cons (And.intro @StoreK_loc (And.intro @StoreK_ptr (And.intro @RK_mov (And.intro @RK_pick (And.intro @RK_lalloc (And.intro @RK_halloc (And.intro @RK_fbox (And.intro @RK_lbox (And.intro @RK_hbox (And.intro @RK_build (And.intro @RK_bslice_live (And.intro @RK_bslice (And.intro @RK_load (And.intro @RK_store (And.intro @RK_ncheck (And.intro @RK_bin (And.intro @RK_eqb (And.intro @RK_eqnil (And.intro @RK_eqs (And.intro @RK_un (And.intro @RK_mkfn (And.intro @RK_mkmap (And.intro @RK_mkslice (And.intro @RK_slice (And.intro @RK_faddr (And.intro @RK_field (And.intro @RK_iaddr (And.intro @RK_iaddrA (And.intro @RK_indexA (And.intro @RK_extract (And.intro @RK_len (And.intro @RK_max (And.intro @RK_min (And.intro @RK_append (And.intro @RK_call (And.intro @RK_call_none (And.intro @RK_guard (And.intro @RK_pre (And.intro @RK_nil (And.intro @upd_apply (And.intro @List.length_cons.{0} (And.intro @List.length_nil.{0} (True.intro))))))))))))))))))))))))))))))))))))))))))))))))))))))))))))))))
def su0 := And.intro @OptK_some (And.intro @OptK_none (And.intro @Opt_some (And.intro @Opt_none (And.intro @lookE_t (And.intro @lookE_c (And.intro @lookL_nil (And.intro @lookL_cons (And.intro @List.map_cons.{0, 0} (And.intro @List.map_nil.{0, 0} (And.intro @List.cons_append.{0} (And.intro @List.nil_append.{0} (And.intro @List.append_nil.{0} (And.intro @loadV_fptr (And.intro @loadV_loc (And.intro @loadV_ptr (And.intro @loadV_eq (And.intro @locV_some (And.intro @objV_arr (And.intro @setO_arr (And.intro @elemsV_nil (And.intro @elemsV_eslice (And.intro @elemsV_slice (And.intro @elemsV_sl (And.intro @elemsV_lref (And.intro @fillV_nil (And.intro @fillV_cons (And.intro @putV_of (And.intro @Option.bind_some.{0, 0} (And.intro @boundV (And.intro @boundV_some (And.intro @natV_one (And.intro @natV_zero (And.intro @natV_cast (And.intro @lenV_sl (And.intro @lenV_ints (And.intro @List.length_map.{0, 0} (And.intro @Option.map_some.{0, 0} (And.intro @List.all_cons.{0} (And.intro @List.all_nil.{0} (And.intro @cells_int (And.intro @cells_bool (And.intro @cells_agg (And.intro @cells_nil (And.intro @cells_slice (And.intro @cells_eslice (And.intro @cells_lref (And.intro @cells_ptr (And.intro @cells_fptr (And.intro @cells_clo (And.intro @cells_map (And.intro @cells_nilFunc (And.intro @isAgg_int (And.intro @isAgg_bool (And.intro @isAgg_agg (And.intro @isAgg_nil (And.intro @isAgg_slice (And.intro @isAgg_eslice (And.intro @isAgg_lref (And.intro @isAgg_ptr (And.intro @isAgg_fptr (And.intro @isAgg_clo (And.intro @isAgg_map (And.intro @isAgg_nilFunc (And.intro @one_int (And.intro @one_bool (And.intro @one_nil (And.intro @one_slice (And.intro @one_eslice (And.intro @one_lref (And.intro @one_ptr (And.intro @one_fptr (And.intro @one_clo (And.intro @one_map (And.intro @one_nilFunc (And.intro @nol_int (And.intro @nol_bool (And.intro @nol_nil (And.intro @nol_slice (And.intro @nol_eslice (And.intro @nol_lref (And.intro @nol_ptr (And.intro @nol_fptr (And.intro @nol_clo (And.intro @nol_agg (And.intro @nol_tup (And.intro @nol_map (And.intro @nol_nilFunc (And.intro @nols_nil (And.intro @nols_cons (And.intro @solid_int (And.intro @solid_bool (And.intro @solid_nil (And.intro @solid_slice (And.intro @solid_eslice (And.intro @solid_fptr (And.intro @solid_clo (And.intro @solid_agg (And.intro @solid_tup (And.intro @solids_nil (And.intro @solids_cons (And.intro @storable_int (And.intro @storable_bool (And.intro @storable_nil (And.intro @storable_slice (And.intro @storable_eslice (And.intro @storable_lref (And.intro @storable_ptr (And.intro @storable_fptr (And.intro @storable_map (And.intro @storable_nilFunc (And.intro @storable_clo (And.intro @storable_agg (And.intro @boolV_bool (And.intro @cloV_clo (And.intro @ncheckV_fptr (And.intro @ncheckV_ptr (And.intro @ncheckV_loc (And.intro @ncheckV_clo (And.intro @lenV_nil (And.intro @lenV_eslice (And.intro @lenV_slice (And.intro @lenV_lref (And.intro @eqbV_bool (And.intro @eqsV_agg (And.intro @faddrV_fptr (And.intro @faddrV_ptr (And.intro @faddrV_loc (And.intro @fieldV_agg (And.intro @extractV_tup (And.intro @unV_not (And.intro @unV_neg (And.intro @binV_add (And.intro @binV_sub (And.intro @binV_mul (And.intro @binV_quo (And.intro @binV_rem (And.intro @binV_eql (And.intro @binV_neq (And.intro @binV_lss (And.intro @binV_leq (And.intro @binV_gtr (And.intro @binV_geq (And.intro @put_zero_nil (And.intro @put_zero (And.intro @put_succ (And.intro @solid_sl (And.intro @nol_sl (And.intro @one_sl (And.intro @cells_sl (And.intro @isAgg_sl (And.intro @storable_sl (And.intro @isNil_sl (And.intro @solid_ints (And.intro @nol_ints (And.intro @one_ints (And.intro @cells_ints (And.intro @isAgg_ints (And.intro @storable_ints (And.intro @cells_lv (And.intro @isAgg_lv (And.intro @one_lv (And.intro @nol_lv (And.intro @storable_lv (And.intro @lenV_lv (And.intro @part_lv (And.intro @chop_T (And.intro @chop_F (And.intro @chop_1 (And.intro @T.part_av (And.intro @T.part_h (And.intro @T.part_ks (And.intro @T.cells_av (And.intro @T.isAgg_av (And.intro @T.solid_av (And.intro @T.storable_av (And.intro @T.nol_av (And.intro @T.within_av (And.intro @T.within_tt (And.intro @Fa.part_av (And.intro @Fa.part_n (And.intro @Fa.part_l (And.intro @Fa.part_r (And.intro @Fa.part_lh (And.intro @Fa.part_lk (And.intro @Fa.part_rh (And.intro @Fa.part_rk (And.intro @Fa.cells_av (And.intro @Fa.isAgg_av (And.intro @Fa.solid_av (And.intro @Fa.storable_av (And.intro @Fa.nol_av (And.intro @Fa.within_av (And.intro @Fa.within_ff (And.intro @Fa.within_l (And.intro @Fa.within_r (And.intro @Cl.part_av (And.intro @Cl.part_el (And.intro @Cl.part_fs (And.intro @Cl.part_elfs (True.intro))))))))))))))))))))))))))))))))))))))))))))))))))))))))))))))))))))))))))))))))))))))))))))))))))))))))))))))))))))))))))))))))))))))))))))))))))))))))))))))))))))))))))))))))))))))))))))))))))))))))
def su1 := And.intro @Cl.cells_av (And.intro @Cl.cells_el (And.intro @Cl.isAgg_av (And.intro @Cl.isAgg_el (And.intro @Cl.solid_av (And.intro @Cl.solid_el (And.intro @Cl.storable_av (And.intro @Cl.storable_el (And.intro @Cl.nol_av (And.intro @Cl.nol_el (And.intro @Cl.within_av (And.intro @Cl.within_cc (And.intro @Lo.part_av (And.intro @Lo.part_ar (And.intro @Lo.part_cs (And.intro @Lo.cells_av (And.intro @Lo.isAgg_av (And.intro @Lo.solid_av (And.intro @Lo.storable_av (And.intro @Lo.nol_av (And.intro @Lo.within_av (And.intro @Gt.part_av (And.intro @Gt.part_kind (And.intro @Gt.part_a (And.intro @Gt.part_b (And.intro @Gt.part_i (And.intro @Gt.part_j (And.intro @Gt.part_turn (And.intro @Gt.part_place (And.intro @Gt.part_bind (And.intro @Gt.cells_av (And.intro @Gt.isAgg_av (And.intro @Gt.solid_av (And.intro @Gt.storable_av (And.intro @Gt.nol_av (And.intro @Gt.within_av (And.intro @part_int (And.intro @part_bool (And.intro @part_sl (And.intro @part_cell (And.intro @part_lref (And.intro @part_clo (And.intro @part_map (And.intro @part_nil (And.intro @guardV_bool (And.intro @beq_tt (And.intro @beq_tf (And.intro @beq_ft (And.intro @beq_ff (And.intro @guardV_tup (And.intro @maxV2 (And.intro @maxV3 (And.intro @minV2 (And.intro @within_aggs (And.intro @within_agg (And.intro @within_cell (And.intro @Nat.add_assoc (And.intro @Nat.le_add_right (And.intro @zero_cast (And.intro @part_aggw (And.intro @part_agg (And.intro @not_false_eq_true (And.intro @false_and (And.intro @and_false (And.intro @List.getElem?_cons_zero.{0} (And.intro @List.getElem?_cons_succ.{0} (And.intro @beq_self_eq_true.{0} (And.intro @bne_self_eq_false.{0} (And.intro @Bool.not_true (And.intro @Bool.not_false (And.intro @Bool.false_eq_true (And.intro @Bool.true_eq_false (And.intro @lt_cast (And.intro @not_lt_cast (And.intro @Bool.and_true (And.intro @Bool.true_and (And.intro @Bool.and_self (And.intro @Nat.le_refl (And.intro @and_self (And.intro @and_true (And.intro @true_and (And.intro @or_self (And.intro @if_true.{1} (And.intro @if_false.{1} (And.intro @Nat.zero_add (And.intro @Nat.add_zero (And.intro @List.take_succ_cons.{0} (And.intro @List.take_zero.{0} (And.intro @List.drop_succ_cons.{0} (And.intro @List.drop_zero.{0} (And.intro @Bool.or_true (And.intro @Bool.or_false (And.intro @Bool.and_false (And.intro @Bool.false_and (And.intro @Bool.true_or (And.intro @Bool.false_or (And.intro @decide_true (And.intro @decide_false (True.intro))))))))))))))))))))))))))))))))))))))))))))))))))))))))))))))))))))))))))))))))))))))))))))))))))
def dr0 := And.intro @pureOf_3 (And.intro @pureOf_4 (And.intro @pureOf_5 (And.intro @pureOf_6 (And.intro @pureOf_7 (And.intro @pureOf_8 (And.intro @pureOf_9 (And.intro @pureOf_10 (And.intro @pureOf_11 (And.intro @pureOf_12 (And.intro @pureOf_13 (And.intro @pureOf_14 (And.intro @pureOf_15 (And.intro @pureOf_16 (And.intro @pureOf_17 (And.intro @pureOf_18 (And.intro @pureOf_19 (And.intro @pureOf_20 (And.intro @pureOf_21 (And.intro @pureOf_22 (And.intro @pureOf_23 (And.intro @pureOf_24 (And.intro @pureOf_25 (And.intro @pureOf_26 (And.intro @pureOf_27 (And.intro @pureOf_28 (And.intro @pureOf_29 (And.intro @pureOf_30 (And.intro @pureOf_31 (And.intro @pureOf_32 (And.intro @pureOf_33 (And.intro @pureOf_34 (And.intro @pureOf_35 (And.intro @pureOf_36 (And.intro @pureOf_37 (And.intro @pureOf_38 (And.intro @pureOf_39 (And.intro @pureOf_40 (And.intro @pureOf_41 (And.intro @pureOf_42 (And.intro @pureOf_43 (And.intro @pureOf_44 (And.intro @pureOf_45 (And.intro @pureOf_46 (And.intro @pureOf_47 (And.intro @pureOf_48 (And.intro @pureOf_49 (And.intro @pureOf_50 (And.intro @pureOf_51 (And.intro @pureOf_52 (And.intro @pureOf_53 (And.intro @pureOf_54 (And.intro @pureOf_55 (And.intro @pureOf_56 (And.intro @pureOf_57 (And.intro @pureOf_58 (And.intro @pureOf_59 (And.intro @pureOf_60 (And.intro @pureOf_61 (And.intro @pureOf_1061 (And.intro @pureOf_62 (And.intro @pureOf_63 (And.intro @pureOf_64 (And.intro @pureOf_65 (And.intro @pureOf_66 (And.intro @pureOf_67 (And.intro @pureOf_68 (And.intro @pureOf_69 (And.intro @pureOf_70 (And.intro @pureOf_71 (And.intro @pureOf_72 (And.intro @pureOf_73 (And.intro @pureOf_74 (And.intro @pureOf_75 (And.intro @pureOf_76 (And.intro @pureOf_77 (And.intro @pureOf_78 (And.intro @pureOf_79 (And.intro @pureOf_80 (And.intro @pureOf_81 (And.intro @pureOf_82 (And.intro @pureOf_83 (And.intro @pureOf_84 (And.intro @pureOf_85 (And.intro @pureOf_86 (And.intro @pureOf_87 (And.intro @pureOf_88 (And.intro @pureOf_89 (And.intro @pureOf_90 (And.intro @pureOf_91 (And.intro @pureOf_92 (And.intro @pureOf_93 (And.intro @pureOf_94 (And.intro @pureOf_95 (And.intro @pureOf_96 (And.intro @pureOf_97 (And.intro @pureOf_98 (And.intro @pureOf_99 (And.intro @pureOf_100 (And.intro @pureOf_101 (And.intro @pureOf_102 (And.intro @pureOf_103 (And.intro @pureOf_104 (And.intro @pureOf_105 (And.intro @testBit_lit (And.intro @fp_free (And.intro @fp_guard (And.intro @fpG_bool (And.intro @fpG_tup (And.intro @fpOf_lalloc (And.intro @fpOf_lbox (And.intro @fpOf_halloc (And.intro @fpOf_hbox (And.intro @fpOf_mkmap (And.intro @fpOf_mkslice (And.intro @fpOf_mapup (And.intro @fpOf_clear (And.intro @fpOf_bslice (And.intro @fpOf_load (And.intro @fpOf_store (And.intro @fpOf_slice (And.intro @fpOf_iaddr (And.intro @fpOf_lookup (And.intro @fpOf_lenmap (And.intro @fpOf_call (And.intro @fpOf_append (And.intro @fpOf_mov (And.intro @fpOf_pick (And.intro @fpOf_fbox (And.intro @fpOf_build (And.intro @fpOf_ncheck (And.intro @fpOf_bin (And.intro @fpOf_eqb (And.intro @fpOf_eqnil (And.intro @fpOf_eqs (And.intro @fpOf_un (And.intro @fpOf_mkfn (And.intro @fpOf_faddr (And.intro @fpOf_field (And.intro @fpOf_iaddrA (And.intro @fpOf_indexA (And.intro @fpOf_extract (And.intro @fpOf_len (And.intro @fpOf_max (And.intro @fpOf_min (And.intro @fpCall_clo (And.intro @cellOf_nil (And.intro @cellOf_eslice (And.intro @cellOf_slice (And.intro @cellOf_lref (And.intro @cellOf_sl (And.intro @cellOf_ints (And.intro @fpAt_loc (And.intro @fpAt_fptr (And.intro @fpAt_ptr (And.intro @clash_none_l (And.intro @clash_none_r (And.intro @clash_cc (And.intro @clash_ca (And.intro @clash_ac (And.intro @clash_aa (And.intro @clash_ff (And.intro @clash_fa (And.intro @clash_af (And.intro @clash_fc (And.intro @clash_cf (And.intro @clash_fw (And.intro @clash_cw (And.intro @clash_aw (And.intro @fpNone (And.intro @fpClash (And.intro @loClash_l (And.intro @loClash_r (And.intro @loClash_s (And.intro @clear1_nil (And.intro @clear1_cons (And.intro @ev_t (And.intro @ev_c (And.intro @Option.map_some.{0, 0} (And.intro @Option.map_none.{0, 0} (And.intro @List.length_cons.{0} (And.intro @List.length_nil.{0} (True.intro))))))))))))))))))))))))))))))))))))))))))))))))))))))))))))))))))))))))))))))))))))))))))))))))))))))))))))))))))))))))))))))))))))))))))))))))))))))))))))))))))))))))))))))))))))))
end Go.Proofs.Ytmbdccekcfeomaa.Am
end
/- Sizes, depths, greatest variables; what is wrong with a tree. -/
section
open Go
namespace Go.Proofs.Ytmbdccekcfeomaa.Am
set_option linter.unusedSimpArgs false
set_option linter.unusedVariables false

theorem T.sizes_drop {ks : List T} {k : Nat} (h : k < ks.length) : T.sizes (ks.drop k) = ks[k].size + T.sizes (ks.drop (k + 1)) := by
  rw [List.drop_eq_getElem_cons h]; rfl
theorem T.sizes_drop_le (ks : List T) (k : Nat) : T.sizes (ks.drop k) ≤ T.sizes ks := by
  induction ks generalizing k with
  | nil => simp
  | cons t ts ih => cases k with
    | zero => simp
    | succ k => simp only [List.drop_succ_cons, T.sizes]; have := ih k; omega
theorem T.sizes_nil : T.sizes [] = 0 := rfl

/-- F.Size -/
theorem fsize_spec (t : T) (ht : t.size < 4611686018427387904) : Gives tab 52 [t.av] (.int .i64 t.size) := by
  induction t using T.ind' with
  | h t ih =>
    have hs := t.size_eq
    have hl := T.length_le t.ks
    refine gives tab_52 fun H nx => ?_
    unfold body52
    dsimp only [qm, qf, ql, qL, qs, qc, qk, qi, qn, qb, qB, qe, qx, qo, qg]
    simp only [start1]
    simp only [↓sd0, su0, su1, resOf, pack, eqCells, ↓reduceIte, Nat.reduceEqDiff, Nat.reduceAdd, Nat.reduceLeDiff, Nat.reduceLT, reduceCtorEq]
    refine W_count t.ks.length (fun k e l H n => e 1 = .fptr t.av 0 ∧ e 4 = .int .i64 k ∧ ∃ a : Nat, e 3 = .int .i64 a ∧ a + T.sizes (t.ks.drop k) = t.size) ?_ ?_ ?_
    · simp only [↓sd0, su0, su1, resOf, pack, eqCells, ↓reduceIte, Nat.reduceEqDiff, Nat.reduceAdd, Nat.reduceLeDiff, Nat.reduceLT, reduceCtorEq]; exact ⟨1, rfl, by omega⟩
    · rintro k e l H n hk ⟨h1, h4, a, h3, ha⟩
      have hz := T.size_kid hk
      have ih' := (ih t.ks[k] (List.getElem_mem hk) (by omega))
      rw [T.sizes_drop hk] at ha
      simp only [↓sd0, su0, su1, resOf, pack, eqCells, ↓reduceIte, Nat.reduceEqDiff, Nat.reduceAdd, Nat.reduceLeDiff, Nat.reduceLT, reduceCtorEq, h1, h3, h4, iaddr_map hk, lt_cast hk, ih'.callK, wrap_succ hk (by omega : t.ks.length < 4611686018427387904)]
      exact ⟨a + t.ks[k].size, by rw [wrap64 (by omega) (by omega)]; simp, by omega⟩
    · rintro e l H n ⟨h1, h4, a, h3, ha⟩
      simp only [↓sd0, su0, su1, resOf, pack, eqCells, ↓reduceIte, Nat.reduceEqDiff, Nat.reduceAdd, Nat.reduceLeDiff, Nat.reduceLT, reduceCtorEq, h1, h3, h4]
      simp [T.sizes_nil] at ha
      simp [ha]


mutual
def T.deep : T → Nat
  | .mk _ _ ks => T.deeps ks + 1
def T.deeps : List T → Nat
  | [] => 0
  | k :: ks => max k.deep (T.deeps ks)
end
theorem T.deep_eq (t : T) : t.deep = T.deeps t.ks + 1 := by cases t; simp [T.deep, T.ks]
theorem T.deeps_drop {ks : List T} {k : Nat} (h : k < ks.length) : T.deeps (ks.drop k) = max ks[k].deep (T.deeps (ks.drop (k + 1))) := by
  rw [List.drop_eq_getElem_cons h]; rfl
theorem T.deep_le (t : T) : t.deep ≤ t.size := by
  induction t using T.ind' with
  | h t ih =>
    rw [T.deep_eq, T.size_eq]
    have : T.deeps t.ks ≤ T.sizes t.ks := by
      generalize t.ks = ks at ih
      induction ks with
      | nil => simp [T.deeps, T.sizes]
      | cons k ks ihk =>
        have a := ih k (List.mem_cons_self ..)
        have b := ihk fun x hx => ih x (List.mem_cons_of_mem _ hx)
        simp only [T.deeps, T.sizes]; omega
    omega
theorem T.deep_kid {ks : List T} {k : Nat} (h : k < ks.length) : ks[k].deep ≤ T.deeps ks := by
  induction ks generalizing k with
  | nil => simp at h
  | cons t ts ih => cases k with
    | zero => simp only [T.deeps, List.getElem_cons_zero]; omega
    | succ k => simp only [T.deeps, List.getElem_cons_succ]; have := ih (by simpa using h); omega
theorem maxI_cast (a b : Nat) : maxI (a : Int) (b : Int) = ((max a b : Nat) : Int) := by
  unfold maxI; split <;> omega

theorem deep_spec (t : T) (ht : t.size < 4611686018427387904) : Gives tab 58 [t.av] (.int .i64 t.deep) := by
  induction t using T.ind' with
  | h t ih =>
    have hs := t.size_eq
    have hd := t.deep_eq
    have hde := t.deep_le
    have hl := T.length_le t.ks
    refine gives tab_58 fun H nx => ?_
    unfold body58
    dsimp only [qm, qf, ql, qL, qs, qc, qk, qi, qn, qb, qB, qe, qx, qo, qg]
    simp only [start1]
    simp only [↓sd0, su0, su1, resOf, pack, eqCells, ↓reduceIte, Nat.reduceEqDiff, Nat.reduceAdd, Nat.reduceLeDiff, Nat.reduceLT, reduceCtorEq]
    refine W_count t.ks.length (fun k e l H n => e 7 = sl 2 t.nil (t.ks.map T.av) ∧ e 9 = .int .i64 k ∧ e 8 = .int .i64 t.ks.length ∧ ∃ a : Nat, e 3 = .int .i64 a ∧ max a (T.deeps (t.ks.drop k)) = T.deeps t.ks) ?_ ?_ ?_
    · simp only [↓sd0, su0, su1, resOf, pack, eqCells, ↓reduceIte, Nat.reduceEqDiff, Nat.reduceAdd, Nat.reduceLeDiff, Nat.reduceLT, reduceCtorEq]; exact ⟨0, rfl, by omega⟩
    · rintro k e l H n hk ⟨h7, h9, h8, a, h3, ha⟩
      have hz := T.size_kid hk
      have ih' := (ih t.ks[k] (List.getElem_mem hk) (by omega))
      rw [T.deeps_drop hk] at ha
      simp only [↓sd0, su0, su1, resOf, pack, eqCells, ↓reduceIte, Nat.reduceEqDiff, Nat.reduceAdd, Nat.reduceLeDiff, Nat.reduceLT, reduceCtorEq, h7, h3, h8, h9, iaddr_map hk, lt_cast hk, ih'.callK, wrap_succ hk (by omega : t.ks.length < 4611686018427387904), maxI_cast]
      exact ⟨_, rfl, by omega⟩
    · rintro e l H n ⟨h7, h9, h8, a, h3, ha⟩
      simp only [↓sd0, su0, su1, resOf, pack, eqCells, ↓reduceIte, Nat.reduceEqDiff, Nat.reduceAdd, Nat.reduceLeDiff, Nat.reduceLT, reduceCtorEq, h7, h3, h8, h9]
      simp [T.deeps] at ha
      rw [wrap64 (by omega) (by omega)]
      simp; omega

theorem fdeep_spec (t : T) (ht : t.size < 4611686018427387904) : Gives tab 84 [t.av] (.int .i64 t.deep) := by
  induction t using T.ind' with
  | h t ih =>
    have hs := t.size_eq
    have hd := t.deep_eq
    have hde := t.deep_le
    have hl := T.length_le t.ks
    refine gives tab_84 fun H nx => ?_
    unfold body84
    dsimp only [qm, qf, ql, qL, qs, qc, qk, qi, qn, qb, qB, qe, qx, qo, qg]
    simp only [start1]
    simp only [↓sd0, su0, su1, resOf, pack, eqCells, ↓reduceIte, Nat.reduceEqDiff, Nat.reduceAdd, Nat.reduceLeDiff, Nat.reduceLT, reduceCtorEq]
    refine W_count t.ks.length (fun k e l H n => e 1 = .fptr t.av 0 ∧ e 4 = .int .i64 k ∧ ∃ a : Nat, e 3 = .int .i64 a ∧ max a (T.deeps (t.ks.drop k)) = T.deeps t.ks) ?_ ?_ ?_
    · simp only [↓sd0, su0, su1, resOf, pack, eqCells, ↓reduceIte, Nat.reduceEqDiff, Nat.reduceAdd, Nat.reduceLeDiff, Nat.reduceLT, reduceCtorEq]; exact ⟨0, rfl, by omega⟩
    · rintro k e l H n hk ⟨h1, h4, a, h3, ha⟩
      have hz := T.size_kid hk
      have ih' := (ih t.ks[k] (List.getElem_mem hk) (by omega))
      rw [T.deeps_drop hk] at ha
      by_cases hgt : (t.ks[k].deep : Int) > (a : Int)
      · simp only [↓sd0, su0, su1, resOf, pack, eqCells, ↓reduceIte, Nat.reduceEqDiff, Nat.reduceAdd, Nat.reduceLeDiff, Nat.reduceLT, reduceCtorEq, h1, h3, h4, iaddr_map hk, lt_cast hk, ih'.callK, wrap_succ hk (by omega : t.ks.length < 4611686018427387904), hgt]
        exact ⟨_, rfl, by omega⟩
      · simp only [↓sd0, su0, su1, resOf, pack, eqCells, ↓reduceIte, Nat.reduceEqDiff, Nat.reduceAdd, Nat.reduceLeDiff, Nat.reduceLT, reduceCtorEq, h1, h3, h4, iaddr_map hk, lt_cast hk, ih'.callK, wrap_succ hk (by omega : t.ks.length < 4611686018427387904), hgt]
        exact ⟨_, rfl, by omega⟩
    · rintro e l H n ⟨h1, h4, a, h3, ha⟩
      simp only [↓sd0, su0, su1, resOf, pack, eqCells, ↓reduceIte, Nat.reduceEqDiff, Nat.reduceAdd, Nat.reduceLeDiff, Nat.reduceLT, reduceCtorEq, h1, h3, h4]
      simp [T.deeps] at ha
      rw [wrap64 (by omega) (by omega)]
      simp; omega

/-! ### small functions -/
theorem in_17 (n a b : Int) : Gives tab 17 [.int .i64 n, .int .i64 a, .int .i64 b] (.bool (decide (a ≤ n ∧ n ≤ b))) := by
  refine gives tab_17 fun H nx => ?_
  unfold body17
  dsimp only [qm, qf, ql, qL, qs, qc, qk, qi, qn, qb, qB, qe, qx, qo, qg]
  by_cases h : n ≥ a
  · simp only [start3]; simp only [↓sd0, su0, su1, resOf, pack, eqCells, ↓reduceIte, Nat.reduceEqDiff, Nat.reduceAdd, Nat.reduceLeDiff, Nat.reduceLT, reduceCtorEq, h] <;> simp <;> omega
  · simp only [start3]; simp only [↓sd0, su0, su1, resOf, pack, eqCells, ↓reduceIte, Nat.reduceEqDiff, Nat.reduceAdd, Nat.reduceLeDiff, Nat.reduceLT, reduceCtorEq, h] <;> simp <;> omega
theorem in_9 (n a b : Int) : Gives tab 9 [.int .i64 n, .int .i64 a, .int .i64 b] (.bool (decide (a ≤ n ∧ n ≤ b))) := by
  refine gives tab_9 fun H nx => ?_
  unfold body9
  dsimp only [qm, qf, ql, qL, qs, qc, qk, qi, qn, qb, qB, qe, qx, qo, qg]
  by_cases h : n ≥ a
  · simp only [start3]; simp only [↓sd0, su0, su1, resOf, pack, eqCells, ↓reduceIte, Nat.reduceEqDiff, Nat.reduceAdd, Nat.reduceLeDiff, Nat.reduceLT, reduceCtorEq, h] <;> simp <;> omega
  · simp only [start3]; simp only [↓sd0, su0, su1, resOf, pack, eqCells, ↓reduceIte, Nat.reduceEqDiff, Nat.reduceAdd, Nat.reduceLeDiff, Nat.reduceLT, reduceCtorEq, h] <;> simp <;> omega
theorem in_28 (n a b : Int) : Gives tab 28 [.int .i64 n, .int .i64 a, .int .i64 b] (.bool (decide (a ≤ n ∧ n ≤ b))) := by
  refine gives tab_28 fun H nx => ?_
  unfold body28
  dsimp only [qm, qf, ql, qL, qs, qc, qk, qi, qn, qb, qB, qe, qx, qo, qg]
  by_cases h : n ≥ a
  · simp only [start3]; simp only [↓sd0, su0, su1, resOf, pack, eqCells, ↓reduceIte, Nat.reduceEqDiff, Nat.reduceAdd, Nat.reduceLeDiff, Nat.reduceLT, reduceCtorEq, h] <;> simp <;> omega
  · simp only [start3]; simp only [↓sd0, su0, su1, resOf, pack, eqCells, ↓reduceIte, Nat.reduceEqDiff, Nat.reduceAdd, Nat.reduceLeDiff, Nat.reduceLT, reduceCtorEq, h] <;> simp <;> omega
/-- A fault: its code, where. -/
def flt (c a : Int) : AV := .agg [.int .i64 c, .int .i64 a]
theorem fault_10 (c a : Int) : Gives tab 10 [.int .i64 c, .int .i64 a] (flt c a) := by
  refine gives tab_10 fun H nx => ?_
  unfold body10
  dsimp only [qm, qf, ql, qL, qs, qc, qk, qi, qn, qb, qB, qe, qx, qo, qg]
  simp only [start2]; simp only [↓sd0, su0, su1, resOf, pack, eqCells, ↓reduceIte, Nat.reduceEqDiff, Nat.reduceAdd, Nat.reduceLeDiff, Nat.reduceLT, reduceCtorEq, flt]
theorem fault_18 (c a : Int) : Gives tab 18 [.int .i64 c, .int .i64 a] (flt c a) := by
  refine gives tab_18 fun H nx => ?_
  unfold body18
  dsimp only [qm, qf, ql, qL, qs, qc, qk, qi, qn, qb, qB, qe, qx, qo, qg]
  simp only [start2]; simp only [↓sd0, su0, su1, resOf, pack, eqCells, ↓reduceIte, Nat.reduceEqDiff, Nat.reduceAdd, Nat.reduceLeDiff, Nat.reduceLT, reduceCtorEq, flt]
theorem fault_27 (c a : Int) : Gives tab 27 [.int .i64 c, .int .i64 a] (flt c a) := by
  refine gives tab_27 fun H nx => ?_
  unfold body27
  dsimp only [qm, qf, ql, qL, qs, qc, qk, qi, qn, qb, qB, qe, qx, qo, qg]
  simp only [start2]; simp only [↓sd0, su0, su1, resOf, pack, eqCells, ↓reduceIte, Nat.reduceEqDiff, Nat.reduceAdd, Nat.reduceLeDiff, Nat.reduceLT, reduceCtorEq, flt]

end Go.Proofs.Ytmbdccekcfeomaa.Am
end
