/- Known results of calls, as natives of the evaluator. -/
import Derived.Test.YteafabpedfgedaaGreatDoorZ9
import Derived.Test.YteafabpedfgedaaGreatDoorZ8
section
set_option linter.unusedSimpArgs false
set_option linter.unusedVariables false
namespace Go.Proofs.YteafabpedfgedaaGreatDoor.Am
open Go Go.Proofs

/-- A function, its arguments, its result. -/
abbrev Kn := List (Nat × List D × V)
def findKn : Kn → Nat → List D → Option V
  | [], _, _ => none
  | e :: r, f, ds => match Nat.beq e.1 f with
    | true => match dEqs e.2.1 ds with
      | true => some e.2.2
      | false => findKn r f ds
    | false => findKn r f ds
def hasKn : Kn → Nat → Bool
  | [], _ => false
  | e :: r, f => match Nat.beq e.1 f with | true => true | false => hasKn r f
noncomputable def knN (K : Kn) (N : Nat') : Nat' := fun f args σ => match hasKn K f with
  | true => match asDs args with
    | some ds => match findKn K f ds with
      | some v => some (v, σ)
      | none => N f args σ
    | none => N f args σ
  | false => N f args σ

def KnOk (P : Program) (K : Kn) : Prop := ∀ e ∈ K, (∀ n, embV [] n e.2.2 = e.2.2) ∧ callA P e.1 (e.2.1.map .d) [] fun r τ => r = e.2.2 ∧ τ = []
theorem KnOk.nil (P : Program) : KnOk P [] := fun e h => by simp at h
theorem KnOk.cons {P : Program} {K : Kn} (h : KnOk P K) {f : Nat} {ds : List D} {v : V} (hv : ∀ n, embV [] n v = v) (hc : callA P f (ds.map .d) [] fun r τ => r = v ∧ τ = []) : KnOk P ((f, ds, v) :: K) := fun e he => by
  rcases List.mem_cons.1 he with rfl | he
  · exact ⟨hv, hc⟩
  · exact h e he
theorem KnOk.app {P : Program} {K L : Kn} (h : KnOk P K) (g : KnOk P L) : KnOk P (K ++ L) := fun e he => by
  rcases List.mem_append.1 he with he | he
  · exact h e he
  · exact g e he

theorem findKn_mem : ∀ {K : Kn} {f : Nat} {ds : List D} {v : V}, findKn K f ds = some v → (f, ds, v) ∈ K
  | [], _, _, _, h => by simp [findKn] at h
  | e :: r, f, ds, v, h => by
    simp only [findKn] at h
    split at h
    · rename_i h1
      split at h
      · rename_i h2
        have e1 := Nat.eq_of_beq_eq_true h1
        have e2 := dEqs_eq _ _ h2
        cases h
        subst e1; subst e2
        simp
      · exact List.mem_cons_of_mem _ (findKn_mem h)
    · exact List.mem_cons_of_mem _ (findKn_mem h)

theorem callA_kn {P : Program} {f : FuncId} {ds : List D} {v : V} (hv : ∀ n, embV [] n v = v) (h : callA P f (ds.map .d) [] fun r τ => r = v ∧ τ = []) (σ : List Ob) : callA P f (ds.map .d) σ fun r τ => r = v ∧ τ = σ := by
  have := callA_frame h [] σ List.nodup_nil rfl (fun _ h => by simp at h) (fun j i h => by simp at h)
  rw [embVs_d] at this
  refine callA_mono this fun r' σ'' hr' => ?_
  obtain ⟨r0, σ0, ⟨rfl, rfl⟩, rfl, rfl⟩ := hr'
  exact ⟨hv _, by simp [storeBack, backInto]⟩
theorem embV_d (d : D) (n : Nat) : embV [] n (.d d) = .d d := by simp [embV, renV]
theorem embV_tup (ds : List D) (n : Nat) : embV [] n (.tup (ds.map .d)) = .tup (ds.map .d) := by
  have := embVs_d [] n ds
  simp only [embVs] at this
  simp only [embV, renV, this]
theorem embV_agg (ds : List D) (n : Nat) : embV [] n (.agg (ds.map .d)) = .agg (ds.map .d) := by
  have := embVs_d [] n ds
  simp only [embVs] at this
  simp only [embV, renV, this]

theorem knN_ok {P : Program} {K : Kn} (hK : KnOk P K) {N : Nat'} (hN : CallOk P N) : CallOk P (knN K N) := fun f args σ v σ' h => by
  unfold knN at h
  split at h
  · split at h
    · rename_i ds hds
      split at h
      · rename_i u hu
        cases h
        obtain ⟨h1, h2⟩ := hK _ (findKn_mem hu)
        exact callA_asDs hds (callA_kn h1 h2 σ)
      · exact hN _ _ _ _ _ h
    · exact hN _ _ _ _ _ h
  · exact hN _ _ _ _ _ h
end Go.Proofs.YteafabpedfgedaaGreatDoor.Am
end
/- The engine's aids: the rules of a walk in two bundles, contracts of functions that only compute, the end of a function. -/
section
set_option linter.unusedSimpArgs false
set_option linter.unusedVariables false
set_option linter.defProp false
namespace Go.Proofs.YteafabpedfgedaaGreatDoor.Am
open Go

section
variable {P : Program} {n : Nat} {s : List V} {σ : List Ob} {K : Ex → List V → List Ob → Prop} {k : V → List Ob → Prop} {kk : List Fr} {l : List CStp}
theorem R_build (t : TypeId) (ps : Array (Nat × Operand)) (d : Option Tmp) : Rn P n (.st ⟨d, .build t ps, none⟩ :: l) kk s σ K = BindV P n (buildF P t σ s ps.toList) d l kk s σ K := step_build (P := P) (s := s) (σ := σ) (k := fun v σ' => Rn P n l kk (putV s d v) σ' K) t ps
theorem R_buildSlice (t : TypeId) (m : Nat) (ps : Array (Nat × Operand)) (d : Option Tmp) : Rn P n (.st ⟨d, .buildSlice t m ps, none⟩ :: l) kk s σ K = BindE P n (buildE P t m σ s ps.toList) d [] l kk s K := (step_buildSlice (P := P) (s := s) (k := fun v σ' => Rn P n l kk (putV s d v) σ' K) t m ps).trans (BindE_nil _ _).symm
theorem F_buildSlice (t : TypeId) (m : Nat) (ps : Array (Nat × Operand)) (d : Option Tmp) (chk : List (COp × Bool)) : Rn P n (.ef ⟨d, .buildSlice t m ps, none⟩ chk :: l) kk s σ K = BindE P n (buildE P t m σ s ps.toList) d chk l kk s K := step_buildSlice (P := P) (s := s) (k := fun v σ' => chkC P chk (putV s d v) σ' ∧ Rn P n l kk (putV s d v) σ' K) t m ps
theorem nilCheck_ptr (o i k : Nat) : nilCheckF σ (.ptr o i k) = if alive σ o then some (.ptr o i k) else none := (rfl)
theorem nilCheck_ipt (cs : List D) : nilCheckF σ (.ipt cs) = some (.ipt cs) := (rfl)
theorem extract_tup (i : Nat) (vs : List V) : extractF i (.tup vs) = vs[i]? := (rfl)
theorem args_arr (xs : List Operand) : argsOf s xs.toArray = xs.map (get s) := (rfl)
end

section
variable {P : Program} {t : TypeId} {σ : List Ob}
theorem ofConst_nils : ofConst (.slice none 0 0) = .d .nils := (rfl)
theorem ofConst_nilp : ofConst (.pointer none) = .d .nilp := (rfl)
theorem ofConst_nilm : ofConst (.map none) = .d .nilm := (rfl)
theorem ofConst_nilf : ofConst .nilFunc = .d .nilf := (rfl)
theorem ofConst_nili : ofConst .nilIface = .d .nili := (rfl)
theorem ofConst_str (s : ByteArray) : ofConst (.string s) = .d (.str s.data.toList) := (rfl)
theorem ofConst_agg (cs : Array Value) : ofConst (.agg cs) = .d (.agg (cs.toList.map sc)) := (rfl)
theorem bin_add (k : IntKind) (a b : Int) : binF P .add t σ (.d (.int k a)) (.d (.int k b)) = some (.d (.int k (k.wrap (a + b)))) := by simp [binF, intBin]
theorem bin_sub (k : IntKind) (a b : Int) : binF P .sub t σ (.d (.int k a)) (.d (.int k b)) = some (.d (.int k (k.wrap (a - b)))) := by simp [binF, intBin]
theorem bin_mul (k : IntKind) (a b : Int) : binF P .mul t σ (.d (.int k a)) (.d (.int k b)) = some (.d (.int k (k.wrap (a * b)))) := by simp [binF, intBin]
theorem bin_eql (k : IntKind) (a b : Int) : binF P .eql t σ (.d (.int k a)) (.d (.int k b)) = some (.d (.bool (a == b))) := by simp [binF, intBin]
theorem bin_neq (k : IntKind) (a b : Int) : binF P .neq t σ (.d (.int k a)) (.d (.int k b)) = some (.d (.bool (a != b))) := by simp [binF, intBin]
theorem bin_lss (k : IntKind) (a b : Int) : binF P .lss t σ (.d (.int k a)) (.d (.int k b)) = some (.d (.bool (decide (a < b)))) := by simp [binF, intBin]
theorem bin_leq (k : IntKind) (a b : Int) : binF P .leq t σ (.d (.int k a)) (.d (.int k b)) = some (.d (.bool (decide (a ≤ b)))) := by simp [binF, intBin]
theorem bin_gtr (k : IntKind) (a b : Int) : binF P .gtr t σ (.d (.int k a)) (.d (.int k b)) = some (.d (.bool (decide (b < a)))) := by simp [binF, intBin]
theorem bin_geq (k : IntKind) (a b : Int) : binF P .geq t σ (.d (.int k a)) (.d (.int k b)) = some (.d (.bool (decide (b ≤ a)))) := by simp [binF, intBin]
theorem bin_str (op : BinOp) (a b : List UInt8) : binF P op t σ (.d (.str a)) (.d (.str b)) = (strBin op a b).map .d := (rfl)
theorem bin_eqb (a b : Bool) : binF P .eql t σ (.d (.bool a)) (.d (.bool b)) = (if isBoolT P t then some (a == b) else none).map fun r => .d (.bool r) := by
  simp only [binF, eqv]
  cases isBoolT P t <;> simp [aggEq, V.ds]
theorem bin_neb (a b : Bool) : binF P .neq t σ (.d (.bool a)) (.d (.bool b)) = (if isBoolT P t then some (a == b) else none).map fun r => .d (.bool (!r)) := by
  simp only [binF, eqv]
  cases isBoolT P t <;> simp [aggEq, V.ds]
theorem bin_eqp (o i k : Nat) : binF P .eql t σ (.ptr o i k) (.d .nilp) = if isPtrT P t && alive σ o then some (.d (.bool false)) else none := by
  simp only [binF, eqv]
  cases (isPtrT P t && alive σ o) <;> simp [aggEq, V.ds]
theorem bin_nep (o i k : Nat) : binF P .neq t σ (.ptr o i k) (.d .nilp) = if isPtrT P t && alive σ o then some (.d (.bool true)) else none := by
  simp only [binF, eqv]
  cases (isPtrT P t && alive σ o) <;> simp [aggEq, V.ds]
theorem bin_eqpp : binF P .eql t σ (.d .nilp) (.d .nilp) = if isPtrT P t then some (.d (.bool true)) else none := by
  simp only [binF, eqv]
  cases isPtrT P t <;> simp [aggEq, V.ds]
theorem bin_nepp : binF P .neq t σ (.d .nilp) (.d .nilp) = if isPtrT P t then some (.d (.bool false)) else none := by
  simp only [binF, eqv]
  cases isPtrT P t <;> simp [aggEq, V.ds]
theorem bin_eqnn : binF P .eql t σ (.d .nils) (.d .nils) = if (elemOfSlice P t).isSome then some (.d (.bool true)) else none := by
  simp only [binF, eqv]
  cases (elemOfSlice P t).isSome <;> simp [aggEq, V.ds]
theorem bin_nenn : binF P .neq t σ (.d .nils) (.d .nils) = if (elemOfSlice P t).isSome then some (.d (.bool false)) else none := by
  simp only [binF, eqv]
  cases (elemOfSlice P t).isSome <;> simp [aggEq, V.ds]
theorem bin_eqln (sz : Nat) (es : List D) : binF P .eql t σ (.d (.lst sz es)) (.d .nils) = none := (rfl)
theorem bin_neln (sz : Nat) (es : List D) : binF P .neq t σ (.d (.lst sz es)) (.d .nils) = none := (rfl)
theorem bin_eqsn (o i k : Nat) : binF P .eql t σ (.sl o i k) (.d .nils) = none := (rfl)
theorem bin_nesn (o i k : Nat) : binF P .neq t σ (.sl o i k) (.d .nils) = none := (rfl)
theorem un_not (b : Bool) : unF .not (.d (.bool b)) = some (.d (.bool (!b))) := (rfl)
theorem un_neg (k : IntKind) (a : Int) : unF .neg (.d (.int k a)) = some (.d (.int k (k.wrap (0 - a)))) := (rfl)
theorem len_str (s : List UInt8) : builtinF P .len [t] σ [.d (.str s)] = if isStrT P t then some (.d (.int .i64 s.length)) else none := (rfl)
theorem len_lst (sz : Nat) (es : List D) : builtinF P .len [t] σ [.d (.lst sz es)] = if isSliceT P t then some (.d (.int .i64 es.length)) else none := (rfl)
theorem len_sl (o off len : Nat) : builtinF P .len [t] σ [.sl o off len] = if isSliceT P t && alive σ o then some (.d (.int .i64 len)) else none := (rfl)
theorem len_nils : builtinF P .len [t] σ [.d .nils] = if isSliceT P t then some (.d (.int .i64 0)) else none := (rfl)
end

section
variable {P : Program} {n : Nat} {s : List V} {σ : List Ob} {K : Ex → List V → List Ob → Prop} {kk : List Fr} {l : List CStp} {t yt : TypeId} {x y : Operand} {d : Option Tmp}
theorem BinK_eqln {sz : Nat} {es : List D} (hx : get s x = .d (.lst sz es)) (hy : get s y = .d .nils) (ht : isSliceT P t = true) (h : ∀ b : Bool, (b = true → es = []) → Rn P n l kk (putV s d (.d (.bool b))) σ K) : BinK P n none (.binOp .eql t x y yt) d l kk s σ K := by
  simp only [BinK, nilA, hx, hy]
  exact ⟨ht, h⟩
theorem BinK_neln {sz : Nat} {es : List D} (hx : get s x = .d (.lst sz es)) (hy : get s y = .d .nils) (ht : isSliceT P t = true) (h : ∀ b : Bool, (b = true → es = []) → Rn P n l kk (putV s d (.d (.bool (!b)))) σ K) : BinK P n none (.binOp .neq t x y yt) d l kk s σ K := by
  simp only [BinK, nilA, hx, hy]
  exact ⟨ht, h⟩
theorem BinK_eqsn {o i k : Nat} (hx : get s x = .sl o i k) (hy : get s y = .d .nils) (ht : isSliceT P t = true) (ha : alive σ o = true) (h : ∀ b : Bool, (b = true → k = 0) → Rn P n l kk (putV s d (.d (.bool b))) σ K) : BinK P n none (.binOp .eql t x y yt) d l kk s σ K := by
  simp only [BinK, nilA, hx, hy]
  exact ⟨ht, ha, h⟩
theorem BinK_nesn {o i k : Nat} (hx : get s x = .sl o i k) (hy : get s y = .d .nils) (ht : isSliceT P t = true) (ha : alive σ o = true) (h : ∀ b : Bool, (b = true → k = 0) → Rn P n l kk (putV s d (.d (.bool (!b)))) σ K) : BinK P n none (.binOp .neq t x y yt) d l kk s σ K := by
  simp only [BinK, nilA, hx, hy]
  exact ⟨ht, ha, h⟩
end

theorem BindE_cons {P : Program} {n : Nat} {s : List V} {K : Ex → List V → List Ob → Prop} {kk : List Fr} {l : List CStp} (v : V) (σ' : List Ob) (d : Option Tmp) (q : COp × Bool) (chk : List (COp × Bool)) : BindE P n (some (v, σ')) d (q :: chk) l kk s K = (chkC P (q :: chk) (putV s d v) σ' ∧ Rn P n l kk (putV s d v) σ' K) := (rfl)


theorem seqK_n {k : List V → List Ob → Prop} {K : Ex → List V → List Ob → Prop} {s : List V} {σ : List Ob} (h : k s σ) : seqK k K .normal s σ := h
theorem seqK_r (k : List V → List Ob → Prop) (K : Ex → List V → List Ob → Prop) (s : List V) (σ : List Ob) : seqK k K .ret s σ = K .ret s σ := (rfl)
theorem seqK_e (k : List V → List Ob → Prop) (K : Ex → List V → List Ob → Prop) (i : Nat) (s : List V) (σ : List Ob) : seqK k K (.exit i) s σ = K (.exit i) s σ := (rfl)

theorem beq_tt : (true == true) = true := (rfl)
theorem beq_ff : (false == false) = true := (rfl)
theorem beq_tf : (true == false) = false := (rfl)
theorem beq_ft : (false == true) = false := (rfl)

theorem lapp_cons (a : Oper) (l r : List Oper) : List.append (a :: l) r = a :: List.append l r := (rfl)
theorem lapp_nil (r : List Oper) : List.append [] r = r := (rfl)
/-- The rules that go first. -/
def RP :=
  And.intro @Go_skip <|
  And.intro @Go_ops <|
  And.intro @Go_seq <|
  And.intro @Go_cond <|
  And.intro @Go_block <|
  And.intro @Go_loop <|
  And.intro @Go_exit <|
  And.intro @Go_ret <|
  And.intro @Pop_nil <|
  And.intro @Pop_code_n <|
  And.intro @Pop_code_r <|
  And.intro @Pop_code_e <|
  And.intro @Pop_blk_n <|
  And.intro @Pop_blk_r <|
  And.intro @Pop_blk_e <|
  And.intro @CondG_t <|
  And.intro @CondG_f <|
  And.intro @Rn_nil <|
  And.intro @seqK_r <|
  And.intro @seqK_e <|
  And.intro @BindV_some <|
  And.intro @BindE_some' <|
  And.intro @BinK_some <|
  And.intro @FnK_fn <|
  And.intro @FnK_bm <|
  And.intro @Rn_q <|
  And.intro @Rn_stG <|
  And.intro @Rn_qG <|
  And.intro @Rn_efG <|
  And.intro @R_move <|
  And.intro @R_assign <|
  And.intro @R_pick <|
  And.intro @R_nilCheck <|
  And.intro @R_binOp <|
  And.intro @R_unOp <|
  And.intro @R_fieldAddr <|
  And.intro @R_field <|
  And.intro @R_load <|
  And.intro @R_indexAddr <|
  And.intro @R_index <|
  And.intro @R_slice <|
  And.intro @R_extract <|
  And.intro @R_makeFunc <|
  And.intro @R_makeBm <|
  And.intro @R_assert <|
  And.intro @R_defer <|
  And.intro @R_lookup <|
  And.intro @R_len <|
  And.intro @R_min <|
  And.intro @R_max <|
  And.intro @R_alloc <|
  And.intro @F_alloc <|
  And.intro @R_box <|
  And.intro @F_box <|
  And.intro @R_store <|
  And.intro @F_store <|
  And.intro @R_makeMap <|
  And.intro @F_makeMap <|
  And.intro @R_range <|
  And.intro @R_entry <|
  And.intro @R_next <|
  And.intro @R_nextS <|
  And.intro @R_mapUpdate <|
  And.intro @F_mapUpdate <|
  And.intro @R_insert <|
  And.intro @F_insert <|
  And.intro @R_entryStore <|
  And.intro @F_entryStore <|
  And.intro @R_mapEntry <|
  And.intro @F_mapEntry <|
  And.intro @R_makeSlice <|
  And.intro @F_makeSlice <|
  And.intro @R_append <|
  And.intro @F_append <|
  And.intro @R_delete <|
  And.intro @F_delete <|
  And.intro @R_clear <|
  And.intro @F_clear <|
  And.intro @R_convert <|
  And.intro @F_convert <|
  And.intro @F_assign <|
  And.intro @F_move <|
  And.intro @R_call <|
  And.intro @F_call <|
  And.intro @R_callv <|
  And.intro @F_callv <|
  And.intro @R_build <|
  And.intro @buildE_def <|
  And.intro @R_buildSlice <|
  @F_buildSlice

/-- The others. -/
def RS :=
  And.intro @BindE_some' <|
  And.intro @BindE_cons <|
  And.intro @BindV_ite <|
  And.intro @GrdK_tt <|
  And.intro @GrdK_ff <|
  And.intro @GrdK_tf <|
  And.intro @GrdK_ft <|
  And.intro @GrdK_no <|
  And.intro @get_tmp <|
  And.intro @get_const <|
  And.intro @get_func <|
  And.intro @ofConst_int <|
  And.intro @ofConst_bool <|
  And.intro @putV_some <|
  And.intro @putV_none <|
  And.intro @List.length_cons.{0} <|
  And.intro @List.length_nil.{0} <|
  And.intro @List.cons_append.{0} <|
  And.intro @List.nil_append.{0} <|
  And.intro @List.set_cons_zero.{0} <|
  And.intro @List.set_cons_succ.{0} <|
  And.intro @List.getD_cons_zero.{0} <|
  And.intro @List.getD_cons_succ.{0} <|
  And.intro @List.map_cons.{0, 0} <|
  And.intro @List.map_nil.{0, 0} <|
  And.intro @List.replicate_succ.{0} <|
  And.intro @List.replicate_zero.{0} <|
  And.intro @Nat.add_zero <|
  And.intro @Nat.zero_add <|
  And.intro @Option.map_some.{0, 0} <|
  And.intro @Option.map_none.{0, 0} <|
  And.intro @Bool.and_self <|
  And.intro @Bool.and_true <|
  And.intro @Bool.true_and <|
  And.intro @doQC_move <|
  And.intro @doQC_assign <|
  And.intro @doQC_pick <|
  And.intro @doQC_nilCheck <|
  And.intro @doQC_binOp <|
  And.intro @doQC_unOp <|
  And.intro @doQC_convert <|
  And.intro @doQC_fieldAddr <|
  And.intro @doQC_field <|
  And.intro @doQC_load <|
  And.intro @doQC_indexAddr <|
  And.intro @doQC_index <|
  And.intro @doQC_slice <|
  And.intro @doQC_extract <|
  And.intro @doQC_makeFunc <|
  And.intro @doQC_makeBm <|
  And.intro @doQC_lookup <|
  And.intro @doQC_build <|
  And.intro @doQC_call <|
  And.intro @doQC_al <|
  And.intro @ofConst_nils <|
  And.intro @ofConst_nilp <|
  And.intro @ofConst_nilm <|
  And.intro @ofConst_nilf <|
  And.intro @ofConst_nili <|
  And.intro @ofConst_str <|
  And.intro @ofConst_agg <|
  And.intro @bin_add <|
  And.intro @bin_sub <|
  And.intro @bin_mul <|
  And.intro @bin_eql <|
  And.intro @bin_neq <|
  And.intro @bin_lss <|
  And.intro @bin_leq <|
  And.intro @bin_gtr <|
  And.intro @bin_geq <|
  And.intro @bin_str <|
  And.intro @bin_eqb <|
  And.intro @bin_neb <|
  And.intro @bin_eqp <|
  And.intro @bin_nep <|
  And.intro @bin_eqpp <|
  And.intro @bin_nepp <|
  And.intro @bin_eqnn <|
  And.intro @bin_nenn <|
  And.intro @bin_eqln <|
  And.intro @bin_neln <|
  And.intro @bin_eqsn <|
  And.intro @bin_nesn <|
  And.intro @un_not <|
  And.intro @un_neg <|
  And.intro @len_str <|
  And.intro @len_lst <|
  And.intro @len_sl <|
  And.intro @len_nils <|
  And.intro @true_and <|
  And.intro @and_true <|
  And.intro @false_and <|
  And.intro @and_false <|
  And.intro @true_or <|
  And.intro @or_true <|
  And.intro @not_true_eq_false <|
  And.intro @not_false_eq_true <|
  And.intro @Nat.zero_le <|
  And.intro @Bool.not_true <|
  And.intro @Bool.not_false <|
  And.intro @Bool.false_eq_true <|
  And.intro @Nat.le_refl <|
  And.intro @Nat.mul_zero <|
  And.intro @Nat.zero_mul <|
  And.intro @Nat.mul_one <|
  And.intro @Nat.one_mul <|
  And.intro @Nat.lt_irrefl <|
  And.intro @Nat.not_lt_zero <|
  And.intro @eq_self.{1} <|
  And.intro @List.getElem?_cons_zero.{0} <|
  And.intro @List.getElem?_cons_succ.{0} <|
  And.intro @List.drop_zero.{0} <|
  And.intro @List.drop_succ_cons.{0} <|
  And.intro @List.take_zero.{0} <|
  And.intro @List.take_succ_cons.{0} <|
  And.intro @List.drop_nil.{0} <|
  And.intro @List.take_nil.{0} <|
  And.intro @if_true.{1} <|
  And.intro @if_false.{1} <|
  And.intro @beq_tt <|
  And.intro @beq_ff <|
  And.intro @beq_tf <|
  And.intro @beq_ft <|
  And.intro @Option.bind_some.{0, 0} <|
  And.intro @Option.getD_some.{0} <|
  And.intro @pickF_t <|
  And.intro @pickF_f <|
  And.intro @nilCheck_ptr <|
  And.intro @nilCheck_ipt <|
  And.intro @extract_tup <|
  @args_arr

/-! ### the end of a function -/
def EndOk (P : Program) (n : Nat) (rs : List ResultVar) (Q : V → List Ob → Prop) (K : Ex → List V → List Ob → Prop) : Prop :=
  ∀ e s σ r r' σ', e = .normal ∨ e = .ret → resF P s σ rs = some r → Fin n r σ r' σ' → Q r' σ' → K e s σ

theorem EndOk.ret {P : Program} {n : Nat} {rs : List ResultVar} {Q : V → List Ob → Prop} {K : Ex → List V → List Ob → Prop} (h : EndOk P n rs Q K) {s : List V} {σ : List Ob} {r : V} (h1 : resF P s σ rs = some r) (h2 : Q r σ) : K .ret s σ := h _ _ _ _ _ _ (.inr rfl) h1 (Fin.refl _ _ _) h2
theorem EndOk.fin {P : Program} {n : Nat} {rs : List ResultVar} {Q : V → List Ob → Prop} {K : Ex → List V → List Ob → Prop} (h : EndOk P n rs Q K) {s : List V} {σ : List Ob} {r r' : V} {σ' : List Ob} (h1 : resF P s σ rs = some r) (hf : Fin n r σ r' σ') (h2 : Q r' σ') : K .ret s σ := h _ _ _ _ _ _ (.inr rfl) h1 hf h2
theorem EndOk.nrm {P : Program} {n : Nat} {rs : List ResultVar} {Q : V → List Ob → Prop} {K : Ex → List V → List Ob → Prop} (h : EndOk P n rs Q K) {s : List V} {σ : List Ob} {r : V} (h1 : resF P s σ rs = some r) (h2 : Q r σ) : K .normal s σ := h _ _ _ _ _ _ (.inl rfl) h1 (Fin.refl _ _ _) h2
theorem EndOk.nfin {P : Program} {n : Nat} {rs : List ResultVar} {Q : V → List Ob → Prop} {K : Ex → List V → List Ob → Prop} (h : EndOk P n rs Q K) {s : List V} {σ : List Ob} {r r' : V} {σ' : List Ob} (h1 : resF P s σ rs = some r) (hf : Fin n r σ r' σ') (h2 : Q r' σ') : K .normal s σ := h _ _ _ _ _ _ (.inl rfl) h1 hf h2

/-- A function's compact code, by its plans. -/
def codeOf (plans : List (Nat × List Stp)) (fn : Func) : CCode := match fn.body with | some c => comp plans c | none => .bad

theorem openedOf {P : Program} {f : FuncId} {fn : Func} (plans : List (Nat × List Stp)) (m : Nat) (rs : List ResultVar) (frz : Bool) (hf : P.funcs[f]? = some fn) (hname : (fn.name == "runtime.NumGoroutine") = false) (hb : fn.body.isSome = true) (ho : okAll P plans (fn.body.getD .skip) = true) (hm : P.follows .mixedOrders = true) (ht : fn.ntmps = m) (hr : fn.results.toList = rs) :
    Opened P f ⟨codeOf plans fn, m, rs, frz⟩ := by
  cases h : fn.body with
  | none => rw [h] at hb; cases hb
  | some c => exact opened plans m rs frz hf hname h (by simp [codeOf, h]) (by rw [h] at ho; exact ho) hm ht hr

/-- A function, opened. -/
theorem Opened.go {P : Program} {f : Nat} {fn : FnE} (h : Opened P f fn) {args : List V} {σ : List Ob} {Q : V → List Ob → Prop} (g : ∀ K, EndOk P σ.length fn.rs Q K → Go P σ.length fn.code [] (args ++ List.replicate (fn.n - args.length) .undef) σ K) : callA P f args σ Q :=
  h args σ Q (g _ fun e s σ r r' σ' he h1 hf h2 => by
    rcases he with rfl | rfl
    · exact ⟨r, h1, r', σ', hf, h2⟩
    · exact ⟨r, h1, r', σ', hf, h2⟩)

/-! ### functions that only compute -/
theorem renVs_d (g : Nat → Option Nat) : ∀ ds : List D, renVs g (ds.map .d) = ds.map .d
  | [] => rfl
  | d :: r => by simp only [List.map_cons, renVs, renV, renVs_d g r]

theorem emb_nil (n : Nat) : (fun o => some (emb [] n o)) = fun o => some (n + o) := by
  funext o
  simp [emb]

theorem callA_pure {P : Program} {f : FuncId} {args : List V} {Q : V → Prop} (h : callA P f args [] fun r σ' => σ' = [] ∧ ∃ d, r = .d d ∧ Q r) (τ : List Ob) (ha : embVs [] τ.length args = args) : callA P f args τ fun r σ' => σ' = τ ∧ Q r := by
  have := callA_frame h [] τ List.nodup_nil rfl (fun _ h => by simp at h) (fun j i h => by simp at h)
  rw [ha] at this
  refine callA_mono this fun r σ' hr => ?_
  obtain ⟨r0, σ0, ⟨rfl, d, rfl, hq⟩, rfl, rfl⟩ := hr
  exact ⟨by simp [storeBack, backInto], by simpa [embV, renV] using hq⟩

theorem callA_val {P : Program} {f : FuncId} {args : List V} {d : D} (h : callA P f args [] fun r σ' => r = .d d ∧ σ' = []) (τ : List Ob) (ha : embVs [] τ.length args = args) : callA P f args τ fun r σ' => r = .d d ∧ σ' = τ :=
  callA_mono (callA_pure (Q := fun r => r = .d d) (callA_mono h fun r σ' ⟨h1, h2⟩ => ⟨h2, d, h1, h1⟩) τ ha) fun r σ' ⟨h1, h2⟩ => ⟨h2, h1⟩

theorem Fin.drop0 (d : D) (σ : List Ob) : Fin 0 (.d d) σ (.d d) [] := by
  have := Fin.keep (n := 0) (r := .d d) (σ := σ) [] List.nodup_nil (fun _ h => by simp at h) (fun i h => by omega)
  simpa [renV, keepσ] using this

theorem Fin.frz0 {σ : List Ob} {o off len sz : Nat} {mk : Bool} {es : List D} (h : σ[o]? = some (.arr sz mk es)) (hl : off + len ≤ es.length) : Fin 0 (.sl o off len) σ (.d (.lst sz ((es.drop off).take len))) [] := by
  have := Fin.freeze (n := 0) (r := .sl o off len) h
  simp only [frzV, if_true, hl] at this
  exact this.trans (Fin.drop0 _ _)

theorem Fin.lst0 {σ : List Ob} {o sz : Nat} {mk : Bool} {es : List D} (h : σ[o]? = some (.arr sz mk es)) {len : Nat} (hl : len = es.length) : Fin 0 (.sl o 0 len) σ (.d (.lst sz es)) [] := by
  subst hl
  have := Fin.frz0 (off := 0) (len := es.length) h (by omega)
  simpa using this

theorem Fin.nil {n : Nat} {σ : List Ob} (sz : Nat) (hn : n ≤ σ.length) : Fin n (.d .nils) σ (.sl σ.length 0 0) (σ ++ [.arr sz false []]) := by
  have := Weak.nil (n := n) (s := [.d .nils]) (σ := σ) 0 sz rfl hn
  simpa [Fin] using this

/-- A closed run, from any store. -/
theorem run_val {P : Program} {T : Tab} (hT : T.All (Opened P)) (k : Nat) {f : FuncId} {args : List V} {d : D} (h : evF P T k f args [] = some (.d d, [])) (τ : List Ob) (ha : embVs [] τ.length args = args) : callA P f args τ fun r σ' => r = .d d ∧ σ' = τ :=
  callA_val (run_ok hT k h) τ ha

theorem stepC_mono {P : Program} {op : Op} {s : List V} {σ : List Ob} {K K' : V → List Ob → Prop} (h : stepC P op s σ K) (hk : ∀ r σ', K r σ' → K' r σ') : stepC P op s σ K' := by
  unfold stepC at h ⊢
  split at h
  · split at h
    · exact callA_mono h hk
    · exact callA_mono h hk
    · exact h.elim
  · split at h
    · exact hk _ _ h
    · split at h
      · exact hk _ _ h
      · exact nilA_mono hk h
theorem stepD_mono {P : Program} {op : Op} {s : List V} {σ : List Ob} {K K' : V → List Ob → Prop} (h : stepD P op s σ K) (hk : ∀ r σ', K r σ' → K' r σ') : stepD P op s σ K' := by
  unfold stepD at h ⊢
  split at h
  · exact ⟨h.1, hk _ _ h.2⟩
  · exact stepC_mono h hk
theorem guardC_mono {o : COp} {s : List V} {yes no yes' no' : List V → Prop} (h : guardC o s yes no) (hy : ∀ s, yes s → yes' s) (hn : ∀ s, no s → no' s) : guardC o s yes' no' := by
  unfold guardC at h ⊢
  split at h
  · exact hy _ h
  · unfold GrdC at h ⊢
    split at h
    · exact ⟨fun e => hy _ (h.1 e), fun e => hn _ (h.2 e)⟩
    · exact hn _ h
    · exact h.elim
theorem stC_mono {P : Program} : ∀ {l : List CStp} {s : List V} {σ : List Ob} {K K' : List V → List Ob → Prop}, stC P l s σ K → (∀ s σ, K s σ → K' s σ) → stC P l s σ K'
  | [], _, _, _, _, h, hk => hk _ _ h
  | .st o :: r, s, σ, K, K', h, hk => by
    simp only [stC] at h ⊢
    exact guardC_mono h (fun s h => stepD_mono h fun v σ' h => stC_mono h hk) (fun s h => stC_mono h hk)
  | .q al o :: r, s, σ, K, K', h, hk => by
    simp only [stC] at h ⊢
    refine guardC_mono h (fun s h => ?_) (fun s h => stC_mono h hk)
    unfold bindO at h ⊢
    split at h
    · exact stC_mono h hk
    · exact h.elim
  | .ef o chk :: r, s, σ, K, K', h, hk => by
    simp only [stC] at h ⊢
    exact guardC_mono h (fun s h => stepC_mono h fun v σ' h => ⟨h.1, stC_mono h.2 hk⟩) (fun s h => stC_mono h hk)
theorem wpC_mono' {P : Program} {n : Nat} : ∀ {cc : CCode} {s : List V} {σ : List Ob} {K K' : Ex → List V → List Ob → Prop}, wpC P n cc s σ K → (∀ e s σ, K e s σ → K' e s σ) → wpC P n cc s σ K'
  | .skip, s, σ, K, K', h, hk => hk _ _ _ h
  | .ops l, s, σ, K, K', h, hk => stC_mono (P := P) (l := l) h fun s σ h => hk _ _ _ h
  | .seq a b, s, σ, K, K', h, hk => by
    simp only [wpC] at h ⊢
    refine wpC_mono' h fun e s σ h => ?_
    cases e with
    | normal => exact wpC_mono' (cc := b) h hk
    | exit id => exact hk _ _ _ h
    | ret => exact hk _ _ _ h
  | .cond c a b, s, σ, K, K', h, hk => by
    simp only [wpC, CondC] at h ⊢
    split at h
    · exact ⟨fun e => wpC_mono' (h.1 e) hk, fun e => wpC_mono' (h.2 e) hk⟩
    · exact h.elim
  | .block id a, s, σ, K, K', h, hk => by
    simp only [wpC] at h ⊢
    refine wpC_mono' h fun e s σ h => ?_
    cases e with
    | normal => exact hk _ _ _ h
    | exit j =>
      simp only [blockK] at h ⊢
      split at h
      · rename_i e; rw [if_pos e]; exact hk _ _ _ h
      · rename_i e; rw [if_neg e]; exact hk _ _ _ h
    | ret => exact hk _ _ _ h
  | .loop a, s, σ, K, K', h, hk => wpC_mono _ _ _ _ _ hk h
  | .exit id, s, σ, K, K', h, hk => hk _ _ _ h
  | .ret, s, σ, K, K', h, hk => hk _ _ _ h
  | .bad, _, _, _, _, h, _ => h.elim

/-! ### loops -/
def keepS (keep : List Nat) : Nat → List V → List V
  | _, [] => []
  | i, x :: r => (if keep.contains i then x else .undef) :: keepS keep (i + 1) r

theorem keepS_le (keep : List Nat) : ∀ (s : List V) (i : Nat), VLes s (keepS keep i s)
  | [], _ => rfl
  | x :: r, i => by
    simp only [keepS, VLes]
    refine ⟨_, _, rfl, ?_, keepS_le keep r (i + 1)⟩
    split
    · exact VLe.refl x
    · exact VLe.undef x

/-- A frame of n slots from i on, of which some hold something. -/
def fr : Nat → Nat → List (Nat × V) → List V
  | _, 0, _ => []
  | i, n + 1, [] => .undef :: fr (i + 1) n []
  | i, n + 1, (j, v) :: r => if i = j then v :: fr (i + 1) n r else .undef :: fr (i + 1) n ((j, v) :: r)

theorem LoopG_weak {P : Program} {n : Nat} {body : CCode} {kk : List Fr} {s s' : List V} {σ σ' : List Ob} {K : Ex → List V → List Ob → Prop} (hw : Weak n s σ s' σ') (h : LoopG P n body kk s' σ' K) : LoopG P n body kk s σ K :=
  fun plans code h1 h2 h3 => WP_weak hw (h plans code h1 h2 h3)

theorem Loop_w {P : Program} {n : Nat} {body : CCode} {kk : List Fr} {s : List V} {σ : List Ob} {K : Ex → List V → List Ob → Prop} {α : Type} (S : α → List V) (T : α → List Ob) (I : α → Prop) (μ : α → Nat) (x : α) (hw : Weak n s σ (S x) (T x)) (hx : I x)
    (round : ∀ x, I x → Go P n body [] (S x) (T x) (seqK (fun s' σ' => ∃ y, I y ∧ μ y < μ x ∧ Weak n s' σ' (S y) (T y)) (fun e s σ => Pop P n kk e s σ K))) : LoopG P n body kk s σ K :=
  LoopG_weak hw (Loop_use S T I μ x rfl rfl hx round)

/-- A loop: the slots 'keep' are known at every round's head. -/
theorem Loop_k {P : Program} {n : Nat} {body : CCode} {kk : List Fr} {s : List V} {σ : List Ob} {K : Ex → List V → List Ob → Prop} {α : Type} (keep : List Nat) (S : α → List V) (T : α → List Ob) (I : α → Prop) (μ : α → Nat) (x : α) (hs : keepS keep 0 s = S x) (hσ : σ = T x) (hx : I x)
    (round : ∀ x, I x → Go P n body [] (S x) (T x) (seqK (fun s' σ' => ∃ y, I y ∧ μ y < μ x ∧ keepS keep 0 s' = S y ∧ σ' = T y) (fun e s σ => Pop P n kk e s σ K))) : LoopG P n body kk s σ K := by
  subst hσ
  refine Loop_w S T I μ x (hs ▸ Weak.slots (keepS_le keep s 0)) hx fun x hx => ?_
  have := round x hx
  refine wpC_mono' this fun e s σ h => ?_
  cases e with
  | normal =>
    simp only [Kof, seqK] at h ⊢
    obtain ⟨y, h1, h2, h3, rfl⟩ := h
    exact ⟨y, h1, h2, h3 ▸ Weak.slots (keepS_le keep s 0)⟩
  | exit id => exact h
  | ret => exact h

/-! ### contracts from the empty store, elsewhere -/
theorem callA_at {P : Program} {f : FuncId} {args : List V} {K : V → List Ob → Prop} (h : callA P f args [] K) (τ : List Ob) (ha : embVs [] τ.length args = args) : callA P f args τ fun r τ' => ∃ r0 σ0, K r0 σ0 ∧ r = embV [] τ.length r0 ∧ τ' = τ ++ σ0.map (embO [] τ.length) := by
  have := callA_frame h [] τ List.nodup_nil rfl (fun _ h => by simp at h) (fun j i h => by simp at h)
  rw [ha] at this
  refine callA_mono this fun r σ' hr => ?_
  obtain ⟨r0, σ0, hq, rfl, rfl⟩ := hr
  exact ⟨r0, σ0, hq, rfl, by simp [storeBack, backInto]⟩

theorem VLe_agg {cs cs' : List V} (h : VLes cs cs') : VLe (.agg cs) (.agg cs') := fun I w l v r => by
  simp only [VR] at r ⊢
  obtain ⟨vs, h1, h2⟩ := r
  exact ⟨vs, h1, h.vrs h2⟩
theorem VLe_tup {cs cs' : List V} (h : VLes cs cs') : VLe (.tup cs) (.tup cs') := fun I w l v r => by
  simp only [VR] at r ⊢
  obtain ⟨vs, h1, h2⟩ := r
  exact ⟨vs, h1, h.vrs h2⟩
theorem VLes_set {x y : V} (h : VLe x y) : ∀ (cs : List V) (k : Nat), cs[k]? = some x → VLes cs (cs.set k y)
  | [], k, e => by simp at e
  | z :: r, 0, e => by
    simp at e; subst e
    exact ⟨_, _, rfl, h, VLes.refl r⟩
  | z :: r, k + 1, e => ⟨_, _, rfl, VLe.refl z, VLes_set h r k (by simpa using e)⟩
theorem VLe.trans {x y z : V} (h : VLe x y) (g : VLe y z) : VLe x z := fun I w l v r => g I w l v (h I w l v r)

/-- What a call leaves may be said in other words. -/
theorem callA_res {P : Program} {f : FuncId} {args : List V} {σ : List Ob} {K : V → List Ob → Prop} (h : callA P f args σ fun r τ => ∃ r' τ', Fin σ.length r τ r' τ' ∧ K r' τ') : callA P f args σ K :=
  ⟨h.1, fun c vals hs hv => (h.2 c vals hs hv).mono fun e w' hp => by
    cases e with
    | outgrown => exact hp
    | panicked _ => exact hp
    | returned v =>
      obtain ⟨loc', σ', r, h1, h2, h3, r', τ', h4, h5⟩ := hp
      obtain ⟨l'', k1, k2, k3⟩ := h4 ⟨w', loc', c.hid⟩ [v] h1 (by simp only [Cx.vrs, VRs]; exact ⟨v, [], rfl, h3, rfl⟩)
      simp only [Cx.vrs, VRs] at k2
      obtain ⟨v', t, e1, k2, e2⟩ := k2
      simp only [List.cons.injEq] at e1
      obtain ⟨rfl, rfl⟩ := e1
      exact ⟨l'', τ', r', k1, ((h2.toN σ.length).trans k3).toExt hs (Nat.le_refl _), k2, h5⟩⟩

theorem VLes.trans : ∀ {xs ys zs : List V}, VLes xs ys → VLes ys zs → VLes xs zs
  | [], _, _, h, g => by simp only [VLes] at h; subst h; exact g
  | x :: xs, _, _, h, g => by
    simp only [VLes] at h
    obtain ⟨y, r, rfl, h1, h2⟩ := h
    simp only [VLes] at g ⊢
    obtain ⟨z, r', rfl, g1, g2⟩ := g
    exact ⟨z, r', rfl, h1.trans g1, h2.trans g2⟩

theorem setAt_same {α : Type} {cs : List α} {k : Nat} {x : α} (h : cs[k]? = some x) : setAt cs k [x] = cs := by
  obtain ⟨hk, e⟩ := List.getElem?_eq_some_iff.1 h
  unfold setAt
  have : cs = cs.take k ++ cs.drop k := (List.take_append_drop k cs).symm
  have hd : cs.drop k = x :: cs.drop (k + 1) := by rw [List.drop_eq_getElem_cons hk, e]
  simp only [List.length_cons, List.length_nil, List.append_assoc, List.cons_append, List.nil_append]
  rw [← hd, ← this]
theorem setAt_one {α : Type} {cs : List α} {k : Nat} {x : α} (h : k < cs.length) : setAt cs k [x] = cs.set k x := by
  unfold setAt
  rw [List.set_eq_take_append_cons_drop, if_pos h]
  simp

/-! ### reading and writing memory of which parts are known -/
section
variable {P : Program} {t : TypeId} {σ : List Ob} {o i k : Nat}
theorem index_arr {sz : Nat} {mk : Bool} {es : List D} {e : TypeId} {kd : IntKind} {off len j : Nat} (h1 : σ[o]? = some (.arr sz mk es)) (he : elemOfSlice P t = some e) (hz : szOf P e = sz) (h0 : 0 < sz) (hj : j < len) : indexAddrF P t σ (.sl o off len) (.d (.int kd (j : Int))) = some (.ptr o (off + j) 0) := by
  simp only [indexAddrF, he, h1, arrSz, hz, h0, and_self, if_true]
  rw [if_pos ⟨by omega, by omega⟩]
  simp
theorem index_lst {sz : Nat} {es ds : List D} {e : TypeId} {kd : IntKind} {j : Nat} (he : elemOfSlice P t = some e) (hz : szOf P e = sz) (hj : es[j]? = some (.agg ds)) (hd : ds.length = sz) : indexAddrF P t σ (.d (.lst sz es)) (.d (.int kd (j : Int))) = some (.ipt ds) := by
  simp only [indexAddrF, he, hz, Int.toNat_natCast, hj, D.csz, hd, if_true, D.cells]
  rw [if_pos ⟨trivial, by omega⟩]
theorem index_lst1 {es : List D} {d : D} {e : TypeId} {kd : IntKind} {j : Nat} (he : elemOfSlice P t = some e) (hz : szOf P e = 1) (hj : es[j]? = some d) (hd : one1 d = true) : indexAddrF P t σ (.d (.lst 1 es)) (.d (.int kd (j : Int))) = some (.ipt [d]) := by
  have h1 : d.csz = some 1 := by cases d <;> first | rfl | cases hd
  have h2 : d.cells = [d] := by cases d <;> first | rfl | cases hd
  simp only [indexAddrF, he, hz, Int.toNat_natCast, hj, h1, if_true, h2]
  rw [if_pos ⟨trivial, by omega⟩]
/-! slices of slices -/
theorem optNat_nat (k : IntKind) (a : Nat) : optNat (some (.d (.int k (a : Int)))) = some (some a) := by simp [optNat, natOf]
theorem optNat_none : optNat none = some none := (rfl)
theorem slc3 {sz : Nat} {mk : Bool} {es : List D} {e : TypeId} {k1 k2 k3 : IntKind} {off len a b c : Nat} (h1 : σ[o]? = some (.arr sz mk es)) (he : elemOfSlice P t = some e) (hz : szOf P e = sz) (h0 : 0 < sz) (hab : a ≤ b) (hbc : b ≤ c) (hc : c ≤ len) :
    sliceF P t σ (.sl o off len) (some (.d (.int k1 (a : Int)))) (some (.d (.int k2 (b : Int)))) (some (.d (.int k3 (c : Int)))) = some .undef := by
  simp only [sliceF, optNat_nat, he, h1, hz, h0, Option.getD_some]
  rw [if_pos ⟨.inr (by simp), trivial, trivial⟩, if_pos ⟨hab, hbc, .inl hc⟩]
theorem slc_lohi {sz : Nat} {mk : Bool} {es : List D} {e : TypeId} {k1 k2 : IntKind} {off len a b : Nat} (h1 : σ[o]? = some (.arr sz mk es)) (he : elemOfSlice P t = some e) (hz : szOf P e = sz) (h0 : 0 < sz) (hab : a ≤ b) (hb : b ≤ len ∨ off + b ≤ es.length) :
    sliceF P t σ (.sl o off len) (some (.d (.int k1 (a : Int)))) (some (.d (.int k2 (b : Int)))) none = some (.sl o (off + a) (b - a)) := by
  simp only [sliceF, optNat_nat, optNat_none, he, h1, hz, h0, Option.getD_some, Option.getD_none]
  rw [if_pos ⟨.inl trivial, trivial, trivial⟩, if_pos ⟨hab, Nat.le_refl _, hb⟩]
theorem slc_lo {sz : Nat} {mk : Bool} {es : List D} {e : TypeId} {k1 : IntKind} {off len a : Nat} (h1 : σ[o]? = some (.arr sz mk es)) (he : elemOfSlice P t = some e) (hz : szOf P e = sz) (h0 : 0 < sz) (ha : a ≤ len) :
    sliceF P t σ (.sl o off len) (some (.d (.int k1 (a : Int)))) none none = some (.sl o (off + a) (len - a)) := by
  simp only [sliceF, optNat_nat, optNat_none, he, h1, hz, h0, Option.getD_some, Option.getD_none]
  rw [if_pos ⟨.inl trivial, trivial, trivial⟩, if_pos ⟨ha, Nat.le_refl _, .inl (Nat.le_refl _)⟩]
theorem slc_hi {sz : Nat} {mk : Bool} {es : List D} {e : TypeId} {k2 : IntKind} {off len b : Nat} (h1 : σ[o]? = some (.arr sz mk es)) (he : elemOfSlice P t = some e) (hz : szOf P e = sz) (h0 : 0 < sz) (hb : b ≤ len ∨ off + b ≤ es.length) :
    sliceF P t σ (.sl o off len) none (some (.d (.int k2 (b : Int)))) none = some (.sl o off b) := by
  simp only [sliceF, optNat_nat, optNat_none, he, h1, hz, h0, Option.getD_some, Option.getD_none, Nat.add_zero, Nat.sub_zero]
  rw [if_pos ⟨.inl trivial, trivial, trivial⟩, if_pos ⟨Nat.zero_le _, Nat.le_refl _, hb⟩]
theorem slcl_lohi {sz : Nat} {es : List D} {e : TypeId} {k1 k2 : IntKind} {a b : Nat} (he : elemOfSlice P t = some e) (hz : szOf P e = sz) (h0 : 0 < sz) (hab : a ≤ b) (hb : b ≤ es.length) :
    sliceF P t σ (.d (.lst sz es)) (some (.d (.int k1 (a : Int)))) (some (.d (.int k2 (b : Int)))) none = some (.d (.lst sz ((es.take b).drop a))) := by
  simp only [sliceF, optNat_nat, optNat_none, he, hz, h0, Option.getD_some, Option.getD_none, cutD]
  rw [if_pos ⟨.inl trivial, trivial, trivial⟩, if_pos ⟨hab, hb, Nat.le_refl _⟩]
theorem slcl_lo {sz : Nat} {es : List D} {e : TypeId} {k1 : IntKind} {a : Nat} (he : elemOfSlice P t = some e) (hz : szOf P e = sz) (h0 : 0 < sz) (ha : a ≤ es.length) :
    sliceF P t σ (.d (.lst sz es)) (some (.d (.int k1 (a : Int)))) none none = some (.d (.lst sz (es.drop a))) := by
  simp only [sliceF, optNat_nat, optNat_none, he, hz, h0, Option.getD_some, Option.getD_none, cutD]
  rw [if_pos ⟨.inl trivial, trivial, trivial⟩, if_pos ⟨ha, Nat.le_refl _, Nat.le_refl _⟩]
theorem slcl_hi {sz : Nat} {es : List D} {e : TypeId} {k2 : IntKind} {b : Nat} (he : elemOfSlice P t = some e) (hz : szOf P e = sz) (h0 : 0 < sz) (hb : b ≤ es.length) :
    sliceF P t σ (.d (.lst sz es)) none (some (.d (.int k2 (b : Int)))) none = some (.d (.lst sz (es.take b))) := by
  simp only [sliceF, optNat_nat, optNat_none, he, hz, h0, Option.getD_some, Option.getD_none, cutD]
  rw [if_pos ⟨.inl trivial, trivial, trivial⟩, if_pos ⟨Nat.zero_le _, hb, Nat.le_refl _⟩]
/-- An append that fits into what is there. -/
theorem app_in {tx : TypeId} {sz : Nat} {mk : Bool} {es ds : List D} {e : TypeId} {off len : Nat} {src : V} (h1 : σ[o]? = some (.arr sz mk es)) (he : elemOfSlice P t = some e) (hk : elemOk P e = true) (hz : szOf P e = sz) (hs : srcD P e σ tx src = some ds) (hf : off + len + ds.length ≤ es.length) :
    appE P t tx σ (.sl o off len) src = some (.sl o off (len + ds.length), σ.set o (.arr sz mk (over es (off + len) ds))) := by
  have : appendInF P t tx σ (.sl o off len) src = some (.sl o off (len + ds.length), σ.set o (.arr sz mk (over es (off + len) ds))) := by
    simp only [appendInF, he, hk, if_true, hs, h1]
    rw [if_pos ⟨hz.symm, hf⟩]
  simp only [appE, this]
/-- An append that does not fit into what is known to be there. -/
theorem app_new {tx : TypeId} {sz : Nat} {mk : Bool} {es ds : List D} {e : TypeId} {off len : Nat} {src : V} (h1 : σ[o]? = some (.arr sz mk es)) (he : elemOfSlice P t = some e) (hk : elemOk P e = true) (hz : szOf P e = sz) (hs : srcD P e σ tx src = some ds) (hf : es.length < off + len + ds.length) (hl : off + len ≤ es.length) {b : Nat} (hbt : bytesT P e = b) (hb : (len + ds.length) * b ≤ 70368744177664) (hb' : b ≤ 16384) :
    appE P t tx σ (.sl o off len) src = some (.sl σ.length 0 (len + ds.length), σ.set o .dead ++ [.arr sz mk ((es.drop off).take len ++ ds)]) := by
  have h2 : appendInF P t tx σ (.sl o off len) src = none := by
    simp only [appendInF, he, hk, if_true, hs, h1]
    rw [if_neg (by omega)]
  have : appendF P t tx σ (.sl o off len) src = some (.sl σ.length 0 (len + ds.length), σ.set o .dead ++ [.arr sz mk ((es.drop off).take len ++ ds)]) := by
    simp only [appendF, he, hk, if_true, hs, h1]
    rw [if_pos ⟨hz.symm, hl, by rw [hbt]; exact hb, by rw [hbt]; exact hb'⟩]
  simp only [appE, h2, this]
theorem app_nil {tx : TypeId} {ds : List D} {e : TypeId} {src : V} (he : elemOfSlice P t = some e) (hk : elemOk P e = true) (hs : srcD P e σ tx src = some ds) {b : Nat} (hbt : bytesT P e = b) (hb : ds.length * b ≤ 70368744177664) (hb' : b ≤ 16384) :
    appE P t tx σ (.d .nils) src = some (.sl σ.length 0 ds.length, σ ++ [.arr (szOf P e) false ds]) := by
  have h2 : appendInF P t tx σ (.d .nils) src = none := by simp only [appendInF, he, hk, if_true, hs]
  have : appendF P t tx σ (.d .nils) src = some (.sl σ.length 0 ds.length, σ ++ [.arr (szOf P e) false ds]) := by
    simp only [appendF, he, hk, if_true, hs]
    rw [if_pos ⟨by rw [hbt]; exact hb, by rw [hbt]; exact hb'⟩]
  simp only [appE, h2, this]
theorem src_lst {tx e : TypeId} {sz : Nat} {ds : List D} (ht : isSliceT P tx = true) (hz : szOf P e = sz) : srcD P e σ tx (.d (.lst sz ds)) = some ds := by
  simp only [srcD]
  rw [if_pos ⟨ht, hz.symm⟩]
theorem src_sl {tx e : TypeId} {sz off len : Nat} {mk : Bool} {es : List D} (h1 : σ[o]? = some (.arr sz mk es)) (ht : isSliceT P tx = true) (hz : szOf P e = sz) (hl : off + len ≤ es.length) : srcD P e σ tx (.sl o off len) = some ((es.drop off).take len) := by
  simp only [srcD, h1]
  rw [if_pos ⟨ht, hz.symm, hl⟩]
theorem clear_sl {sz off len : Nat} {mk : Bool} {es : List D} {e : TypeId} {z : D} (h1 : σ[o]? = some (.arr sz mk es)) (he : elemOfSlice P t = some e) (hk : elemOk P e = true) (hz : szOf P e = sz) (hd : zeroD P e = some z) (hf : flatOk z sz = true) (hl : off + len ≤ es.length) :
    clearF P t σ (.sl o off len) = some (σ.set o (.arr sz mk (over es off (List.replicate len z)))) := by
  subst hz
  simp only [clearF, he, hd, h1]
  rw [if_pos ⟨hk, hf, by first | trivial | rfl, hl⟩]
theorem over_app (a b ds : List D) : over (a ++ b) a.length ds = a ++ (ds ++ b.drop ds.length) := by
  unfold over
  rw [List.take_left, List.append_assoc, List.drop_append, List.drop_of_length_le (by omega), List.nil_append]
  congr 3; omega
theorem one_sl {q off len : Nat} (h : alive σ q = true) : one σ (.sl q off len) = true := by simp [one, live, h]
theorem one_ptr {q i k : Nat} (h : alive σ q = true) : one σ (.ptr q i k) = true := by simp [one, live, h]
theorem one_mp {q : Nat} (h : alive σ q = true) : one σ (.mp q) = true := by simp [one, live, h]
theorem store_aggd {cs : List V} {xs : List D} (h1 : σ[o]? = some (.box cs)) (hx : xs.all one1 = true) (hk : k + xs.length ≤ cs.length) (hz : xs.length = szOf P t) (h0 : 0 < szOf P t) : storeF P t σ (.ptr o 0 k) (.d (.agg xs)) = some (σ.set o (.box (setAt cs k (xs.map .d)))) := by
  have : (xs.map V.d).all (one σ) = true := by
    simp only [List.all_map, List.all_eq_true, Function.comp] at hx ⊢
    intro d hd
    have := hx d hd
    cases d <;> first | rfl | cases this
  simp only [storeF, h1, cellsV]
  rw [if_pos ⟨trivial, by simpa using hz, h0, by simpa using hk, this⟩]
theorem alive_app {q : Nat} (h : alive σ q = true) (τ : List Ob) : alive (σ ++ τ) q = true := by
  have hq : q < σ.length := by
    rcases Nat.lt_or_ge q σ.length with g | g
    · exact g
    · unfold alive at h; rw [List.getElem?_eq_none g] at h; cases h
  unfold alive at h ⊢
  rw [List.getElem?_append_left hq]; exact h
theorem natOf_nat (k : IntKind) (a : Nat) : natOf (.d (.int k (a : Int))) = some a := by simp [natOf]
theorem make_vec {e : TypeId} {z : List V} {n : Nat} {k1 k2 : IntKind} (he : elemOfSlice P t = some e) (hz : zeroCs P e = some z) (hr : zeroRef P e = true) (hk : elemOk P e = true) (hb : bytesT P e * n ≤ 281474976710656) : makeF P t σ (.d (.int k1 (n : Int))) (.d (.int k2 (n : Int))) = some (.sl σ.length 0 n, σ ++ [.box (List.replicate n z).flatten]) := by
  unfold elemOk at hk
  unfold bytesT at hb
  cases hi : P.info? e with
  | none => rw [hi] at hk; cases hk
  | some i =>
    have hk' : elemOk P e = true := by unfold elemOk; exact hk
    rw [hi] at hb
    simp only [Option.map_some, Option.getD_some] at hb
    have h1 : makeSliceF P t σ (.d (.int k1 (n : Int))) (.d (.int k2 (n : Int))) = none := by
      simp only [makeSliceF, he, natOf_nat, hi, hr]
      split
      · rw [if_neg]
        rintro ⟨q | q, _⟩
        · cases q
        · omega
      · rfl
    simp only [makeF, h1, makeVecF, he, natOf_nat, hi, hz, hr]
    rw [if_pos ⟨trivial, hk', trivial, hb⟩]
theorem make_arr {e : TypeId} {z : D} {n : Nat} {k1 k2 : IntKind} (he : elemOfSlice P t = some e) (hz : zeroD P e = some z) (hr : zeroRef P e = false) (hk : elemOk P e = true) (hf : flatOk z (szOf P e) = true) (hb : bytesT P e * n ≤ 281474976710656) : makeF P t σ (.d (.int k1 (n : Int))) (.d (.int k2 (n : Int))) = some (.sl σ.length 0 n, σ ++ [.arr (szOf P e) false (List.replicate n z)]) := by
  unfold elemOk at hk
  unfold bytesT at hb
  cases hi : P.info? e with
  | none => rw [hi] at hk; cases hk
  | some i =>
    have hk' : elemOk P e = true := by unfold elemOk; exact hk
    rw [hi] at hb
    simp only [Option.map_some, Option.getD_some] at hb
    have h1 : makeSliceF P t σ (.d (.int k1 (n : Int))) (.d (.int k2 (n : Int))) = some (.sl σ.length 0 n, σ ++ [.arr (szOf P e) false (List.replicate n z)]) := by
      simp only [makeSliceF, he, natOf_nat, hi, hz]
      rw [if_pos ⟨.inl hr, hk', hf, Nat.le_refl _, hb⟩]
    simp only [makeF, h1]
theorem load_agg {cs : List V} (h1 : σ[o]? = some (.box cs)) (hk : k + szOf P t ≤ cs.length) (ha : aggT P t = true) (h0 : 0 < szOf P t) : loadF P t σ (.ptr o 0 k) = some (.agg ((cs.drop k).take (szOf P t))) := by
  simp only [loadF, h1, takeV, ha, if_true, h0, true_and, List.length_drop]
  rw [if_pos (by omega)]
theorem load_all {cs : List V} (h1 : σ[o]? = some (.box cs)) (hk : szOf P t = cs.length) (ha : aggT P t = true) (h0 : 0 < szOf P t) : loadF P t σ (.ptr o 0 0) = some (.agg cs) := by
  rw [load_agg h1 (by omega) ha h0, hk]
  simp
theorem load_arr {sz : Nat} {mk : Bool} {es cs : List D} {d : D} (h1 : σ[o]? = some (.arr sz mk es)) (h2 : es[i]? = some (.agg cs)) (h3 : cs.length = sz) (h4 : cs[k]? = some d) (ha : aggT P t = false) (ht : okT P t = true) : loadF P t σ (.ptr o i k) = some (.d d) := by
  obtain ⟨hk, e⟩ := List.getElem?_eq_some_iff.1 h4
  have hd : cs.drop k = d :: cs.drop (k + 1) := by rw [List.drop_eq_getElem_cons hk, e]
  simp only [loadF, h1, h2, D.csz, h3, if_true, takeD, D.cells, hd, ha, ht, Bool.false_eq_true, if_false]
theorem load_elem {sz : Nat} {mk : Bool} {es cs : List D} (h1 : σ[o]? = some (.arr sz mk es)) (h2 : es[i]? = some (.agg cs)) (h3 : cs.length = sz) (hz : szOf P t = sz) (ha : aggT P t = true) (h0 : 0 < szOf P t) : loadF P t σ (.ptr o i 0) = some (.d (.agg cs)) := by
  simp only [loadF, h1, h2, D.csz, h3, if_true, takeD, D.cells, ha, List.drop_zero, h0, true_and]
  rw [if_pos (by omega), hz, ← h3]
  simp
theorem store_box {cs : List V} {x : V} (h1 : σ[o]? = some (.box cs)) (hx : one σ x = true) (hk : k < cs.length) (hz : szOf P t = 1) : storeF P t σ (.ptr o 0 k) x = some (σ.set o (.box (cs.set k x))) := by
  have hc : cellsV σ x = some [x] := by
    unfold cellsV
    split
    · simp [one] at hx
    · simp [one] at hx
    · rw [if_pos hx]
  simp only [storeF, h1, hc, hz, List.length_cons, List.length_nil]
  rw [if_pos ⟨trivial, by simp, by omega, by omega, by simp [hx]⟩, setAt_one hk]
theorem store_agg {cs xs : List V} (h1 : σ[o]? = some (.box cs)) (hx : xs.all (one σ) = true) (hk : k + xs.length ≤ cs.length) (hz : xs.length = szOf P t) (h0 : 0 < szOf P t) : storeF P t σ (.ptr o 0 k) (.agg xs) = some (σ.set o (.box (setAt cs k xs))) := by
  simp only [storeF, h1, cellsV]
  rw [if_pos ⟨trivial, hz, h0, hk, hx⟩]
theorem setAt_all {α : Type} {cs xs : List α} (h : xs.length = cs.length) : setAt cs 0 xs = xs := by
  simp [setAt, h]
theorem store_box_same {cs : List V} {x : V} (h1 : σ[o]? = some (.box cs)) (hx : one σ x = true) (h2 : cs[k]? = some x) (hz : szOf P t = 1) : storeF P t σ (.ptr o 0 k) x = some σ := by
  obtain ⟨hk, e⟩ := List.getElem?_eq_some_iff.1 h2
  obtain ⟨ho, e3⟩ := List.getElem?_eq_some_iff.1 h1
  rw [store_box h1 hx hk hz]
  have q1 : cs.set k x = cs := by rw [← e]; simp
  rw [q1, ← e3]; simp
theorem one_d {d : D} (h : one1 d = true) : one σ (.d d) = true := by
  cases d <;> first | rfl | cases h
theorem one_map {ms : List D} (h : ms.all one1 = true) : (ms.map V.d).all (one σ) = true := by
  simp only [List.all_map, List.all_eq_true, Function.comp] at h ⊢
  exact fun d hd => one_d (h d hd)
theorem all_set {α : Type} {p : α → Bool} {l : List α} (h : l.all p = true) (k : Nat) {x : α} (hx : p x = true) : (l.set k x).all p = true := by
  simp only [List.all_eq_true] at h ⊢
  intro y hy
  rcases List.mem_or_eq_of_mem_set hy with hy | rfl
  · exact h y hy
  · exact hx
theorem frzVs_d (o sz : Nat) (es : List D) : ∀ ms : List D, frzVs o sz es (ms.map .d) = ms.map .d
  | [] => rfl
  | d :: r => by simp only [List.map_cons, frzVs, frzV, frzVs_d o sz es r]
theorem frzVs_set (o sz : Nat) (es : List D) (x : V) : ∀ (cs : List V) (k : Nat), frzVs o sz es (cs.set k x) = (frzVs o sz es cs).set k (frzV o sz es x)
  | [], k => rfl
  | c :: r, 0 => rfl
  | c :: r, k + 1 => by simp only [List.set_cons_succ, frzVs, frzVs_set o sz es x r k]
theorem set_same {α : Type} {l : List α} {k : Nat} {x : α} (h : l[k]? = some x) : l.set k x = l := by
  obtain ⟨hk, e⟩ := List.getElem?_eq_some_iff.1 h
  rw [← e]; simp
theorem store_arr {sz : Nat} {mk : Bool} {es cs : List D} {d : D} (h1 : σ[o]? = some (.arr sz mk es)) (h2 : es[i]? = some (.agg cs)) (h3 : cs.length = sz) (hd : one1 d = true) (hc : d.csz = some 1) (hcs : d.cells = [d]) (hk : k < sz) (hz : szOf P t = 1) (hs : 1 < sz) : storeF P t σ (.ptr o i k) (.d d) = some (σ.set o (.arr sz mk (es.set i (.agg (cs.set k d))))) := by
  have e1 : toD σ (.d d) = some d := by cases d <;> first | rfl | cases hd
  have hcz : (D.agg cs).csz = some sz := by simp [D.csz, h3]
  simp only [storeF, h1, h2, e1, hz, flatOk, hc, hcs, List.all_cons, List.all_nil, Bool.and_true, hd, hcz]
  have : ¬ (1 = sz ∧ k = 0) := by omega
  simp only [this, if_false, D.cells]
  rw [if_pos ⟨by simp, by omega⟩, if_pos ⟨trivial, by omega⟩, setAt_one (by omega)]
theorem store_same {sz : Nat} {mk : Bool} {es cs : List D} {d : D} (h1 : σ[o]? = some (.arr sz mk es)) (h2 : es[i]? = some (.agg cs)) (h3 : cs.length = sz) (h4 : cs[k]? = some d) (hd : one1 d = true) (hc : d.csz = some 1) (hcs : d.cells = [d]) (hz : szOf P t = 1) (hs : 1 < sz) : storeF P t σ (.ptr o i k) (.d d) = some σ := by
  obtain ⟨hk, e⟩ := List.getElem?_eq_some_iff.1 h4
  rw [store_arr h1 h2 h3 hd hc hcs (by omega) hz hs]
  congr 1
  obtain ⟨hi, e2⟩ := List.getElem?_eq_some_iff.1 h2
  obtain ⟨ho, e3⟩ := List.getElem?_eq_some_iff.1 h1
  have q1 : cs.set k d = cs := by rw [← e]; simp
  have q2 : es.set i (.agg (cs.set k d)) = es := by rw [q1, ← e2]; simp
  rw [q2, ← e3]; simp
end


/-! ### stores -/
/-- The store has grown, and no object but those of S has changed. -/
def Keeps (S : Nat → Prop) (σ σ' : List Ob) : Prop := σ.length ≤ σ'.length ∧ ∀ o, o < σ.length → ¬ S o → σ'[o]? = σ[o]?
theorem Keeps.refl (S : Nat → Prop) (σ : List Ob) : Keeps S σ σ := ⟨Nat.le_refl _, fun _ _ _ => rfl⟩
theorem Keeps.trans {S S' : Nat → Prop} {σ σ' σ'' : List Ob} (h : Keeps S σ σ') (g : Keeps S' σ' σ'') (hS : ∀ o, o < σ.length → S' o → S o) : Keeps S σ σ'' :=
  ⟨Nat.le_trans h.1 g.1, fun o ho hs => (g.2 o (Nat.lt_of_lt_of_le ho h.1) (fun q => hs (hS o ho q))).trans (h.2 o ho hs)⟩
theorem Keeps.mono {S S' : Nat → Prop} {σ σ' : List Ob} (h : Keeps S σ σ') (hS : ∀ o, S o → S' o) : Keeps S' σ σ' := ⟨h.1, fun o ho hs => h.2 o ho fun q => hs (hS o q)⟩
theorem Keeps.get {S : Nat → Prop} {σ σ' : List Ob} (h : Keeps S σ σ') {o : Nat} {x : Ob} (ho : σ[o]? = some x) (hs : ¬ S o) : σ'[o]? = some x := (h.2 o (lt_of_get ho) hs).trans ho
theorem Keeps.app (S : Nat → Prop) (σ τ : List Ob) : Keeps S σ (σ ++ τ) := ⟨by simp, fun o ho _ => List.getElem?_append_left ho⟩
theorem Keeps.set {S : Nat → Prop} (σ : List Ob) {o : Nat} (x : Ob) (hs : S o) : Keeps S σ (σ.set o x) := ⟨by simp, fun p hp hn => by rw [List.getElem?_set_ne]; rintro rfl; exact hn hs⟩
end Go.Proofs.YteafabpedfgedaaGreatDoor.Am
end
/- The engine's thaw: what holds of a call whose arguments are data that nothing changes holds where they lie in memory that is owned, if what it hands back shares nothing with them. -/
section
set_option linter.unusedSimpArgs false
set_option linter.unusedVariables false
namespace Go.Proofs.YteafabpedfgedaaGreatDoor.Am
open Go

mutual
/-- Data without lists. -/
def plnD : D → Bool
  | .lst _ _ => false
  | .agg cs => plnDs cs
  | .ifc _ d => plnD d
  | _ => true
def plnDs : List D → Bool
  | [] => true
  | d :: r => plnD d && plnDs r
end
mutual
def plnV : V → Bool
  | .d x => plnD x
  | .ipt _ => false
  | .fn _ cs => plnVs cs
  | .bm _ cs => plnVs cs
  | .agg cs => plnVs cs
  | .tup cs => plnVs cs
  | _ => true
def plnVs : List V → Bool
  | [] => true
  | x :: r => plnV x && plnVs r
end
def plnO : Ob → Bool
  | .dead => true
  | .box cs => plnVs cs
  | .vec _ cs => plnVs cs
  | .arr _ _ es => plnDs es
  | .sit _ _ => true
  | _ => false

mutual
theorem DR_pln {I J : Im} : ∀ (d : D) (v : Value), plnD d = true → DR I d v → DR J d v
  | .int _ _, _, _, r | .bool _, _, _, r | .str _, _, _, r | .nils, _, _, r | .nilp, _, _, r | .nilm, _, _, r | .nilf, _, _, r | .nili, _, _, r => by simpa [DR] using r
  | .any, _, _, _ => by simp [DR]
  | .lst sz es, v, h, r => by simp [plnD] at h
  | .agg cs, v, h, r => by
    simp only [DR] at r ⊢
    obtain ⟨vs, h1, h2⟩ := r
    exact ⟨vs, h1, DRs_pln cs vs (by simpa [plnD] using h) h2⟩
  | .ifc t d, v, h, r => by
    simp only [DR] at r ⊢
    obtain ⟨x, h1, h2⟩ := r
    exact ⟨x, h1, DR_pln d x (by simpa [plnD] using h) h2⟩
theorem DRs_pln {I J : Im} : ∀ (ds : List D) (vs : List Value), plnDs ds = true → DRs I ds vs → DRs J ds vs
  | [], vs, _, r => by simpa [DRs] using r
  | d :: ds, vs, h, r => by
    simp only [DRs] at r ⊢
    simp only [plnDs, Bool.and_eq_true] at h
    obtain ⟨v, t, h1, h2, h3⟩ := r
    exact ⟨v, t, h1, DR_pln d v h.1 h2, DRs_pln ds t h.2 h3⟩
end
theorem RowsR_pln {I J : Im} : ∀ (ds : List D) (b off sz : Nat), plnDs ds = true → (∀ o, J.cell b o = I.cell b o) → RowsR I ds b off sz → RowsR J ds b off sz
  | [], _, _, _, _, _, _ => by simp [RowsR]
  | d :: ds, b, off, sz, h, hb, r => by
    simp only [RowsR] at r ⊢
    simp only [plnDs, Bool.and_eq_true] at h
    obtain ⟨⟨v, h1, h2, h3⟩, h4⟩ := r
    exact ⟨⟨v, DR_pln d v h.1 h1, h2, fun j hj => by rw [hb]; exact h3 j hj⟩, RowsR_pln ds b (off + sz) sz h.2 hb h4⟩

mutual
theorem VR_pln {I J : Im} {w : World} {l : Nat → Loc} : ∀ (x : V) (v : Value), plnV x = true → VR I w l x v → VR J w l x v
  | .d x, v, h, r => by simp only [VR] at r ⊢; exact DR_pln x v (by simpa [plnV] using h) r
  | .ptr o i k, v, _, r => by simpa only [VR] using r
  | .ipt cs, v, h, r => by simp [plnV] at h
  | .sl o off len, v, _, r => by simpa only [VR] using r
  | .mp o, v, _, r => by simpa only [VR] using r
  | .fn f caps, v, h, r => by
    simp only [VR] at r ⊢
    obtain ⟨vs, h1, h2⟩ := r
    exact ⟨vs, h1, VRs_pln caps vs (by simpa [plnV] using h) h2⟩
  | .bm f caps, v, h, r => by
    simp only [VR] at r ⊢
    obtain ⟨vs, h1, h2⟩ := r
    exact ⟨vs, h1, VRs_pln caps vs (by simpa [plnV] using h) h2⟩
  | .agg cs, v, h, r => by
    simp only [VR] at r ⊢
    obtain ⟨vs, h1, h2⟩ := r
    exact ⟨vs, h1, VRs_pln cs vs (by simpa [plnV] using h) h2⟩
  | .tup cs, v, h, r => by
    simp only [VR] at r ⊢
    obtain ⟨vs, h1, h2⟩ := r
    exact ⟨vs, h1, VRs_pln cs vs (by simpa [plnV] using h) h2⟩
  | .undef, _, _, _ => by simp [VR]
theorem VRs_pln {I J : Im} {w : World} {l : Nat → Loc} : ∀ (xs : List V) (vs : List Value), plnVs xs = true → VRs I w l xs vs → VRs J w l xs vs
  | [], vs, _, r => by simpa [VRs] using r
  | x :: xs, vs, h, r => by
    simp only [VRs] at r ⊢
    simp only [plnVs, Bool.and_eq_true] at h
    obtain ⟨v, t, h1, h2, h3⟩ := r
    exact ⟨v, t, h1, VR_pln x v h.1 h2, VRs_pln xs t h.2 h3⟩
end

theorem OR_pln {c c' : Cx} (hw : c'.w = c.w) (hl : c'.loc = c.loc) {l : Loc} {x : Ob} (hf : plnO x = true) (r : OR c l x) : OR c' l x := by
  have hv : ∀ (xs : List V) (vs : List Value), plnVs xs = true → c.vrs xs vs → c'.vrs xs vs := fun xs vs h q => by
    have := VRs_pln (J := c'.im) xs vs h q
    show VRs c'.im c'.w c'.loc xs vs
    rw [hw, hl]; exact this
  cases x with
  | dead => exact r
  | box cs =>
    obtain ⟨b, bs, h0, arr, e, f, h1, h2, us, rest, hu, h3⟩ := r
    exact ⟨b, bs, h0, arr, e, f, by rw [hw]; exact h1, h2, us, rest, hu, hv _ _ (by simpa [plnO] using hf) h3⟩
  | vec sz cs =>
    obtain ⟨b, bs, h0, h0', arr, e, f, h1, h2, us, hle, hat, h3⟩ := r
    exact ⟨b, bs, h0, h0', arr, e, f, by rw [hw]; exact h1, h2, us, hle, hat, hv _ _ (by simpa [plnO] using hf) h3⟩
  | arr sz mk es =>
    rcases r with r | ⟨b, base, h0, h1, arr, e, f, h2, h3, h4, h5⟩
    · exact .inl r
    · exact .inr ⟨b, base, h0, h1, arr, e, f, by rw [hw]; exact h2, h3, h4, RowsR_pln es b base sz (by simpa [plnO] using hf) (fun o => by simp [Cx.im, hw]) h5⟩
  | map es clk => simp [plnO] at hf
  | mit m since seen last => simp [plnO] at hf
  | sit s pos =>
    obtain ⟨b, h0, h1⟩ := r
    exact ⟨b, h0, by rw [hw]; exact h1⟩

/-- Memory that no call put away, owned or not. -/
def openI (c : Cx) : Im := { cell := fun b o => c.w.cell? ⟨b, o, none⟩, ok := fun b => b < c.w.heap.size ∧ ¬ c.hid.blk b }
theorem openI_le (c : Cx) : c.im.Le (openI c) := fun b hb => ⟨⟨hb.1, hb.2.2⟩, fun _ => rfl⟩

/-- The value is read as the datum, wherever it lies. -/
def ReadV (τ : List Ob) (x : V) (d : D) : Prop := ∀ (c : Cx) (v : Value), SR c τ → c.vr x v → DR (openI c) d v
def ReadVs (τ : List Ob) (xs : List V) (ds : List D) : Prop := ∀ (c : Cx) (vs : List Value), SR c τ → c.vrs xs vs → DRs (openI c) ds vs

theorem ReadV.d (τ : List Ob) (d : D) : ReadV τ (.d d) d := fun c v hs h => by
  simp only [Cx.vr, VR] at h
  exact DR_mono (openI_le c) d v h
theorem ReadVs.nil (τ : List Ob) : ReadVs τ [] [] := fun c vs _ h => by simpa [Cx.vrs, VRs, DRs] using h
theorem ReadVs.cons {τ : List Ob} {x : V} {d : D} {xs : List V} {ds : List D} (h : ReadV τ x d) (g : ReadVs τ xs ds) : ReadVs τ (x :: xs) (d :: ds) := fun c vs hs q => by
  simp only [Cx.vrs, VRs] at q
  obtain ⟨v, r, rfl, q1, q2⟩ := q
  simp only [DRs]
  exact ⟨v, r, rfl, h c v hs q1, g c r hs q2⟩
theorem ReadVs.of_get {τ : List Ob} : ∀ {xs : List V} {ds : List D}, xs.length = ds.length → (∀ (i : Nat) (x : V) (d : D), xs[i]? = some x → ds[i]? = some d → ReadV τ x d) → ReadVs τ xs ds
  | [], [], _, _ => .nil τ
  | x :: xs, d :: ds, hl, h => .cons (h 0 x d rfl rfl) (.of_get (by simpa using hl) fun i x d q1 q2 => h (i + 1) x d (by simpa using q1) (by simpa using q2))
  | [], _ :: _, hl, _ => by simp at hl
  | _ :: _, [], hl, _ => by simp at hl
theorem ReadVs.append {τ : List Ob} {xs ys : List V} {ds es : List D} (h : ReadVs τ xs ds) (g : ReadVs τ ys es) : ReadVs τ (xs ++ ys) (ds ++ es) := fun c vs hs q => by
  have hl := VRs_length q
  obtain ⟨q1, q2⟩ : c.vrs xs (vs.take xs.length) ∧ c.vrs ys (vs.drop xs.length) := by
    constructor
    · have := VRs_take q xs.length
      rwa [List.take_left] at this
    · have := VRs_drop q xs.length
      rwa [List.drop_left] at this
  have := DRs_append (h c _ hs q1) (g c _ hs q2)
  rwa [List.take_append_drop] at this
theorem ReadV.agg {τ : List Ob} {xs : List V} {ds : List D} (h : ReadVs τ xs ds) : ReadV τ (.agg xs) (.agg ds) := fun c v hs q => by
  simp only [Cx.vr, VR] at q
  obtain ⟨vs, rfl, q⟩ := q
  simp only [DR]
  exact ⟨vs, rfl, h c vs hs q⟩
theorem ReadV.arr {τ : List Ob} {o sz len : Nat} {mk : Bool} {es : List D} (ho : τ[o]? = some (.arr sz mk es)) (hl : len = es.length) : ReadV τ (.sl o 0 len) (.lst sz es) := fun c v hs q => by
  subst hl
  rcases vr_sl hs ho q with ⟨_, rfl, _, h2, h3⟩ | ⟨b, base, a, cap, arr, e, f, hl, rfl, g1, g2, g3, g4, g5, g6, g7, g8⟩
  · subst h3
    simp only [DR]
    exact ⟨none, 0, rfl, Nat.le_refl _, .inl trivial⟩
  · simp only [DR]
    refine ⟨_, cap, rfl, g1, ?_⟩
    rcases Nat.eq_zero_or_pos es.length with q0 | q0
    · exact .inl (List.eq_nil_of_length_eq_zero q0)
    · right
      have ha := g2 (by omega)
      simp only [Nat.zero_mul, Nat.add_zero] at ha
      subst ha
      exact ⟨b, _, rfl, g3, ⟨(Array.getElem?_eq_some_iff.1 g4).1, fun q => (hs.hid b q).2 ⟨o, _, sz, hl⟩⟩, RowsR_mono (openI_le c) es b _ sz (fun _ => rfl) g8⟩

/-- Rows of a row of cells. -/
def Rows50 (τ : List Ob) (sz : Nat) : List V → List D → Prop
  | cs, [] => cs = []
  | cs, d :: ds => ∃ x r es, cs = x ++ r ∧ d = .agg es ∧ x.length = sz ∧ ReadVs τ x es ∧ Rows50 τ sz r ds

theorem Rows50.len {τ : List Ob} {sz : Nat} : ∀ {ds : List D} {cs : List V}, Rows50 τ sz cs ds → cs.length = ds.length * sz
  | [], cs, h => by simp only [Rows50] at h; subst h; simp
  | d :: ds, cs, h => by
    simp only [Rows50] at h
    obtain ⟨x, r, es, rfl, rfl, hx, _, h⟩ := h
    rw [List.length_append, hx, h.len, List.length_cons, Nat.add_mul]; omega

theorem Rows50.rows {τ : List Ob} {sz : Nat} {c : Cx} (hs : SR c τ) {b : Nat} {arr : Array Value} {e : TypeId} {f : Nat × Nat} (hb : c.w.heap[b]? = some (.cells arr e f)) : ∀ {ds : List D} {cs : List V} {us : List Value} {base : Nat}, Rows50 τ sz cs ds → c.vrs cs us → (∀ u ∈ us, u.oneCell' = true) →
    (∀ j, j < us.length → arr[base + j]? = us[j]?) → RowsR (openI c) ds b base sz
  | [], _, _, _, _, _, _, _ => by simp [RowsR]
  | d :: ds, cs, us, base, h, hv, h1, hat => by
    simp only [Rows50] at h
    obtain ⟨x, r, es, rfl, rfl, hx, hr, h⟩ := h
    have q1 : c.vrs x (us.take x.length) := by have := VRs_take hv x.length; rwa [List.take_left] at this
    have q2 : c.vrs r (us.drop x.length) := by have := VRs_drop hv x.length; rwa [List.drop_left] at this
    have hl := VRs_length hv
    rw [List.length_append] at hl
    have hd := hr c _ hs q1
    simp only [RowsR]
    refine ⟨⟨.agg (us.take x.length).toArray, by simp only [DR]; exact ⟨_, rfl, hd⟩, ⟨by simp [Value.cells]; omega, fun u hu => h1 u (by simp [Value.cells] at hu; exact List.mem_of_mem_take hu)⟩, fun j hj => ?_⟩, ?_⟩
    · show c.w.cell? ⟨b, base + j, none⟩ = _
      rw [cell?_cells hb, hat j (by omega)]
      simp [Value.cells, List.getElem?_take, hx, hj]
    · refine Rows50.rows hs hb h q2 (fun u hu => h1 u (List.mem_of_mem_drop hu)) fun j hj => ?_
      rw [List.length_drop] at hj
      rw [List.getElem?_drop, ← hat _ (by omega)]
      congr 1; omega

theorem ReadV.vec {τ : List Ob} {o sz len : Nat} {cs : List V} {ds : List D} (ho : τ[o]? = some (.vec sz cs)) (hr : Rows50 τ sz cs ds) (h1 : cs.all (one τ) = true) (hl : len = ds.length) : ReadV τ (.sl o 0 len) (.lst sz ds) := fun c v hs q => by
  subst hl
  obtain ⟨b, base, hl, h0, arr, e, f, hb, h2, us, hle, hat, h3⟩ := hs.get ho
  simp only [Cx.vr, VR, hl] at q
  obtain ⟨a, cap, rfl, g1, g2, _⟩ := q
  simp only [DR]
  refine ⟨_, cap, rfl, g1, ?_⟩
  rcases Nat.eq_zero_or_pos ds.length with q0 | q0
  · exact .inl (List.eq_nil_of_length_eq_zero q0)
  · right
    have ha := g2 (by omega)
    simp only [Nat.zero_mul, Nat.add_zero] at ha
    subst ha
    exact ⟨b, _, rfl, h0, ⟨(Array.getElem?_eq_some_iff.1 hb).1, fun q => (hs.hid b q).2 ⟨o, _, sz, hl⟩⟩, hr.rows hs hb h3 (vrs_one hs h3 h1) hat⟩

/-- THE THAW. -/
theorem callA_thaw {P : Program} {f : FuncId} {ds : List D} {K : V → List Ob → Prop} (h : callA P f (ds.map .d) [] K) (hK : ∀ r σ', K r σ' → plnV r = true ∧ ∀ x ∈ σ', plnO x = true) {τ : List Ob} {args : List V} (hr : ReadVs τ args ds) :
    callA P f args τ fun r τ' => ∃ r0 σ0, K r0 σ0 ∧ r = embV [] τ.length r0 ∧ τ' = storeBack τ [] σ0 := by
  refine ⟨h.1, fun c vals hs hv => ?_⟩
  have hun : ∀ o, (frameC c [] τ.length).loc o = .unborn := fun o => by
    show c.loc (emb [] τ.length o) = _
    exact hs.unborn (by simp [emb])
  have hown : ∀ b, ¬ (frameC c [] τ.length).own b := by
    rintro b ⟨o, base, sz, q⟩
    rw [hun o] at q; cases q
  let c0 : Cx := ⟨c.w, (frameC c [] τ.length).loc, ⟨c.hid.blk, []⟩⟩
  have hown0 : ∀ b, ¬ c0.own b := hown
  have hS0 : SR c0 [] := by
    refine ⟨fun o => ?_, fun {o o' b base sz base' sz'} q => ?_, fun b hb => ⟨(hs.hid b hb).1, hown0 b⟩, ?_⟩
    · show ORo c0 ((frameC c [] τ.length).loc o) ([] : List Ob)[o]?
      rw [hun o]; simp [ORo]
    · change (frameC c [] τ.length).loc o = _ at q
      rw [hun o] at q; cases q
    · exact Glob.le (c := c) (c' := c0) (fun b hb => ⟨⟨hb.1, hown0 b, hb.2.2⟩, fun _ => rfl⟩) hs.gl
  have hhid : ∀ b, (frameC c [] τ.length).hid.blk b → b < c.w.heap.size := by
    rintro b (q | ⟨o, base, sz, _, q⟩)
    · exact (hs.hid b q).1
    · exact hs.lt q
  have him : c.im.Le (frameC c [] τ.length).im := fun b hb => ⟨⟨hb.1, hown b, fun q => by
    rcases q with q | ⟨o, base, sz, _, q⟩
    · exact hb.2.2 q
    · exact hb.2.1 ⟨o, base, sz, q⟩⟩, fun _ => rfl⟩
  have hgf : Glob (frameC c [] τ.length) := Glob.le (c := c) (c' := frameC c [] τ.length) him hs.gl
  have hSf : SR (frameC c [] τ.length) [] := by
    refine ⟨fun o => ?_, fun {o o' b base sz base' sz'} q => ?_, fun b hb => ⟨hhid b hb, hown b⟩, hgf⟩
    · rw [hun o]; simp [ORo]
    · rw [hun o] at q; cases q
  have hv0 : c0.vrs (ds.map .d) vals := VRs_map_d.2 (DRs_mono (J := c0.im) (I := openI c) (fun b hb => ⟨⟨hb.1, hown0 b, hb.2⟩, fun _ => rfl⟩) ds vals (hr c vals hs hv))
  refine (h.2 c0 vals hS0 hv0).mono fun e w' hp => frame_post hs (ρ := []) List.nodup_nil rfl (fun i hi => by simp at hi) hSf ?_
  cases e with
  | outgrown => exact hp
  | panicked _ => exact hp
  | returned v =>
    obtain ⟨loc', σ', r, k1, k2, k3, k4⟩ := hp
    obtain ⟨f1, f2⟩ := hK r σ' k4
    have hE : Ext (frameC c [] τ.length) ⟨w', loc', (frameC c [] τ.length).hid⟩ := ⟨rfl, k2.size, k2.cells, fun b hb _ => k2.frame b hb (hown0 b), fun o => k2.loc o, k2.io⟩
    refine ⟨loc', σ', r, ⟨fun o => ?_, fun q q' => k1.inj q q', fun b hb => ⟨?_, ?_⟩, hE.glob hgf⟩, hE, VR_pln r v f1 k3, k4⟩
    · have q := k1.obj o
      show ORo _ (loc' o) _
      cases hx : σ'[o]? with
      | none => rw [hx] at q; exact q
      | some x =>
        rw [hx] at q
        exact OR_pln (c := ⟨w', loc', c0.hid⟩) (c' := ⟨w', loc', (frameC c [] τ.length).hid⟩) rfl rfl (f2 x (List.mem_of_getElem? hx)) q
    · exact Nat.lt_of_lt_of_le (hhid b hb) k2.size
    · exact (k2.frame b (hhid b hb) (hown0 b)).2

/-! ### a row of data turned into a row of cells -/
def rowsV (es : List D) : List V := es.flatMap fun e => e.cells.map .d

theorem Weak.vec {n : Nat} {s : List V} {σ : List Ob} {o sz : Nat} {mk : Bool} {es : List D} (hx : σ[o]? = some (.arr sz mk es)) (hn : es ≠ []) (hc : ∀ e ∈ es, e.csz = some sz) : Weak n s σ s (σ.set o (.vec sz (rowsV es))) := fun c vs h1 h2 => by
  rcases h1.get hx with ⟨_, q⟩ | ⟨b, base, hl, h0, arr, e, f, hb, hu, hle, hr⟩
  · exact absurd q hn
  have key : ∀ (es : List D) (base : Nat), (∀ e ∈ es, e.csz = some sz) → base + es.length * sz ≤ arr.size → RowsR c.im es b base sz → ∃ us : List Value, us.length = es.length * sz ∧ (∀ j, j < us.length → arr[base + j]? = us[j]?) ∧ c.vrs (rowsV es) us := by
    intro es
    induction es with
    | nil => intro base _ _ _; exact ⟨[], by simp, fun j hj => by simp at hj, by simp [rowsV, Cx.vrs, VRs]⟩
    | cons e es ih =>
      intro base hc hle hr
      simp only [RowsR] at hr
      obtain ⟨⟨v, d1, d2, d3⟩, hr⟩ := hr
      rw [List.length_cons, Nat.add_mul] at hle
      obtain ⟨us, g1, g2, g3⟩ := ih (base + sz) (fun e he => hc e (by simp [he])) (by omega) hr
      obtain ⟨q1, q2, q3⟩ := DR_csz d1 (hc e (by simp))
      have hvl : v.cells.toList.length = sz := by simpa using q1
      refine ⟨v.cells.toList ++ us, by rw [List.length_append, g1, hvl, List.length_cons, Nat.add_mul]; omega, fun j hj => ?_, ?_⟩
      · rw [List.length_append, g1, hvl] at hj
        by_cases hj' : j < sz
        · have := d3 j hj'
          change c.w.cell? ⟨b, base + j, none⟩ = _ at this
          rw [cell?_cells hb] at this
          rw [this, List.getElem?_append_left (by omega), Array.getElem?_toList]
        · rw [List.getElem?_append_right (by omega), hvl, ← g2 _ (by omega)]
          congr 1; omega
      · simp only [rowsV, List.flatMap_cons]
        exact vrs_append (VRs_map_d.2 q3) g3
  obtain ⟨us, g1, g2, g3⟩ := key es base hc hle hr
  have hS := SR.write h1 hl c.w rfl (fun _ _ => rfl) (fun cs e f h => ⟨cs, f, h, rfl⟩) (.vec sz (rowsV es)) ⟨b, base, rfl, h0, arr, e, f, hb, ⟨hu.1, fun j hj => hu.2 j (by split <;> omega)⟩, us, by omega, g2, g3⟩ ⟨rfl, rfl, rfl⟩
  exact ⟨c.loc, hS, h2, (Ext.refl c).toN n⟩

theorem Fin.vec {n : Nat} {r : V} {σ : List Ob} {o sz : Nat} {mk : Bool} {es : List D} (hx : σ[o]? = some (.arr sz mk es)) (hn : es ≠ []) (hc : ∀ e ∈ es, e.csz = some sz) : Fin n r σ r (σ.set o (.vec sz (rowsV es))) := Weak.vec hx hn hc
end Go.Proofs.YteafabpedfgedaaGreatDoor.Am
end
