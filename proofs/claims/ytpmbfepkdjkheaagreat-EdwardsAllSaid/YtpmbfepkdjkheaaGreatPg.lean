/- Layer 19 as variables: points and numbers, of the program and of the document. -/
import Derived.Test.YtpmbfepkdjkheaaGreatPf
import Derived.Test.YtpmbfepkdjkheaaGreatFt
import Derived.Test.YtpmbfepkdjkheaaGreatNh
namespace Go.Proofs.YtpmbfepkdjkheaaGreat
open Go Pw Go.RowKit
structure EOps where
  fo : FOps
  base : Rungs
  parse : K32 → Rungs × Int
  lift : K32 → Bool → Rungs × Int
  bytes : Rungs → K32
  u : Rungs → K32
  padd : Rungs → Rungs → Rungs
  psub : Rungs → Rungs → Rungs
  pneg : Rungs → Rungs
  dbl : Rungs → Rungs
  equal : Rungs → Rungs → Bool
  isn : Rungs → Bool
  small : Rungs → Bool
  scale : Rungs → List Nat → Rungs
  times : Rungs → K32 → Rungs
  rbase : Pt3
  rparse : K32 → Pt3 × Int
  rlift : K32 → Bool → Pt3 × Int
  rbytes : Pt3 → K32
  ru : Pt3 → K32
  radd : Pt3 → Pt3 → Pt3
  rsub : Pt3 → Pt3 → Pt3
  rneg : Pt3 → Pt3
  rdbl : Pt3 → Pt3
  requal : Pt3 → Pt3 → Bool
  risn : Pt3 → Bool
  rsmall : Pt3 → Bool
  rscale : Pt3 → List Nat → Pt3
  sred : List Nat → K32
  swhole : K32 → K32 × Int
  sadd : K32 → K32 → K32
  ssub : K32 → K32 → K32
  smul : K32 → K32 → K32
  sneg : K32 → K32
  sisz : K32 → Bool
def concE : EOps where
  fo := concFOps
  base := ptO concFOps (concFOps.frm bxKey) (concFOps.frm byKey)
  parse k := (parseV concFOps k, bif parseB concFOps k then 0 else 190)
  lift k b := (liftV concFOps k b, bif liftB concFOps k b then 0 else 190)
  bytes := bytO concFOps
  u := uO concFOps
  padd := addO concFOps
  psub p q := addO concFOps p (negO concFOps q)
  pneg := negO concFOps
  dbl := dblO concFOps
  equal p q := eqX concFOps p q && eqY concFOps p q
  isn := isnO concFOps
  small p := isnO concFOps (dblO concFOps (dblO concFOps (dblO concFOps p)))
  scale p b := scaleV concP (d2z concP) (fewL concP p) (tb0 concP) b
  times p k := scaleV concP (d2z concP) (fewL concP p) (tb0 concP) k.toList
  rbase := ⟨concFOps.rfrm bxKey, concFOps.rfrm byKey, concFOps.rsmall 1⟩
  rparse k := (rparseV concFOps k, bif rparseB concFOps k then 0 else 190)
  rlift k b := (rliftV concFOps k b, bif rliftB concFOps k b then 0 else 190)
  rbytes := rbytO concFOps
  ru := ruO concFOps
  radd p q := raddO concFOps p q (dR concFOps)
  rsub p q := raddO concFOps p (rnegO concFOps q) (dR concFOps)
  rneg := rnegO concFOps
  rdbl := rdblO concFOps
  requal p q := reqX concFOps p q && reqY concFOps p q
  risn := risnO concFOps
  rsmall p := risnO concFOps (rdblO concFOps (rdblO concFOps (rdblO concFOps p)))
  rscale p b := scaleQ concP p concP.rdd concP.rneu b
  sred b := concNOps.scal (redN concNOps zeroL b)
  swhole := wholeN concNOps
  sadd := addN concNOps
  ssub := subN concNOps
  smul := mulN concNOps
  sneg a := subN concNOps zeroK a
  sisz a := keyEq a zeroK
noncomputable abbrev XE0 (e : EOps) : Cx := X_rootR e.fo
theorem XE0_ok : CxOK Tryz.prog (XE0 concE) := X_rootR_ok
def gv_base (e : EOps) (args : List LA) : Option (AV × Option Blk) := match args with
  | [] => some (rungsV (e.base), none)
  | _ => none
theorem gv_base_at : QuietAt Tryz.prog 26 (lav (gv_base concE)) := by
  rw [show gv_base concE = g_baseP concFOps by kernel_rfl]
  exact baseP_at
noncomputable def X_vbase (e : EOps) : Cx := { XE0 e with O := addQ (XE0 e).O 26 (lav (gv_base e)) }
theorem X_vbase_ok : CxOK Tryz.prog (X_vbase concE) := { XE0_ok with quiet := addQ_ok XE0_ok.quiet gv_base_at }
def gv_parse (e : EOps) (args : List LA) : Option (AV × Option Blk) := match args with
  | [.v x0] => (match key? x0 with
    | some k => some (.tup [rungsV ((e.parse k)).1, .n ((e.parse k)).2], none)
    | _ => none)
  | _ => none
theorem gv_parse_at : QuietAt Tryz.prog 40 (lav (gv_parse concE)) := by
  rw [show gv_parse concE = g_parseP concFOps by kernel_rfl]
  exact parseP_at
noncomputable def X_vparse (e : EOps) : Cx := { X_vbase e with O := addQ (X_vbase e).O 40 (lav (gv_parse e)) }
theorem X_vparse_ok : CxOK Tryz.prog (X_vparse concE) := { X_vbase_ok with quiet := addQ_ok X_vbase_ok.quiet gv_parse_at }
def gv_lift (e : EOps) (args : List LA) : Option (AV × Option Blk) := match args with
  | [.v x0, .v x1] => (match key? x0, bool? x1 with
    | some k, some b => some (.tup [rungsV ((e.lift k b)).1, .n ((e.lift k b)).2], none)
    | _, _ => none)
  | _ => none
theorem gv_lift_at : QuietAt Tryz.prog 42 (lav (gv_lift concE)) := by
  rw [show gv_lift concE = g_liftP concFOps by kernel_rfl]
  exact liftP_at
noncomputable def X_vlift (e : EOps) : Cx := { X_vparse e with O := addQ (X_vparse e).O 42 (lav (gv_lift e)) }
theorem X_vlift_ok : CxOK Tryz.prog (X_vlift concE) := { X_vparse_ok with quiet := addQ_ok X_vparse_ok.quiet gv_lift_at }
def gv_bytes (e : EOps) (args : List LA) : Option (AV × Option Blk) := match args with
  | [.v x0] => (match rungs? x0 with
    | some p => some (keyV (e.bytes p), none)
    | _ => none)
  | _ => none
theorem gv_bytes_at : QuietAt Tryz.prog 12 (lav (gv_bytes concE)) := by
  rw [show gv_bytes concE = g_ptBytes concFOps by kernel_rfl]
  exact ptBytes_at
noncomputable def X_vbytes (e : EOps) : Cx := { X_vlift e with O := addQ (X_vlift e).O 12 (lav (gv_bytes e)) }
theorem X_vbytes_ok : CxOK Tryz.prog (X_vbytes concE) := { X_vlift_ok with quiet := addQ_ok X_vlift_ok.quiet gv_bytes_at }
def gv_u (e : EOps) (args : List LA) : Option (AV × Option Blk) := match args with
  | [.v x0] => (match rungs? x0 with
    | some p => some (keyV (e.u p), none)
    | _ => none)
  | _ => none
theorem gv_u_at : QuietAt Tryz.prog 14 (lav (gv_u concE)) := by
  rw [show gv_u concE = g_ptU concFOps by kernel_rfl]
  exact ptU_at
noncomputable def X_vu (e : EOps) : Cx := { X_vbytes e with O := addQ (X_vbytes e).O 14 (lav (gv_u e)) }
theorem X_vu_ok : CxOK Tryz.prog (X_vu concE) := { X_vbytes_ok with quiet := addQ_ok X_vbytes_ok.quiet gv_u_at }
def gv_padd (e : EOps) (args : List LA) : Option (AV × Option Blk) := match args with
  | [.v x0, .v x1] => (match rungs? x0, rungs? x1 with
    | some p, some q => some (rungsV (e.padd p q), none)
    | _, _ => none)
  | _ => none
theorem gv_padd_at : QuietAt Tryz.prog 44 (lav (gv_padd concE)) := by
  rw [show gv_padd concE = g_ptAdd concFOps by kernel_rfl]
  exact ptAdd_at
noncomputable def X_vpadd (e : EOps) : Cx := { X_vu e with O := addQ (X_vu e).O 44 (lav (gv_padd e)) }
theorem X_vpadd_ok : CxOK Tryz.prog (X_vpadd concE) := { X_vu_ok with quiet := addQ_ok X_vu_ok.quiet gv_padd_at }
def gv_psub (e : EOps) (args : List LA) : Option (AV × Option Blk) := match args with
  | [.v x0, .v x1] => (match rungs? x0, rungs? x1 with
    | some p, some q => some (rungsV (e.psub p q), none)
    | _, _ => none)
  | _ => none
theorem gv_psub_at : QuietAt Tryz.prog 46 (lav (gv_psub concE)) := by
  rw [show gv_psub concE = g_ptSub concFOps by kernel_rfl]
  exact ptSub_at
noncomputable def X_vpsub (e : EOps) : Cx := { X_vpadd e with O := addQ (X_vpadd e).O 46 (lav (gv_psub e)) }
theorem X_vpsub_ok : CxOK Tryz.prog (X_vpsub concE) := { X_vpadd_ok with quiet := addQ_ok X_vpadd_ok.quiet gv_psub_at }
def gv_pneg (e : EOps) (args : List LA) : Option (AV × Option Blk) := match args with
  | [.v x0] => (match rungs? x0 with
    | some p => some (rungsV (e.pneg p), none)
    | _ => none)
  | _ => none
theorem gv_pneg_at : QuietAt Tryz.prog 48 (lav (gv_pneg concE)) := by
  rw [show gv_pneg concE = g_ptNeg concFOps by kernel_rfl]
  exact ptNeg_at
noncomputable def X_vpneg (e : EOps) : Cx := { X_vpsub e with O := addQ (X_vpsub e).O 48 (lav (gv_pneg e)) }
theorem X_vpneg_ok : CxOK Tryz.prog (X_vpneg concE) := { X_vpsub_ok with quiet := addQ_ok X_vpsub_ok.quiet gv_pneg_at }
def gv_dbl (e : EOps) (args : List LA) : Option (AV × Option Blk) := match args with
  | [.v x0] => (match rungs? x0 with
    | some p => some (rungsV (e.dbl p), none)
    | _ => none)
  | _ => none
theorem gv_dbl_at : QuietAt Tryz.prog 50 (lav (gv_dbl concE)) := by
  rw [show gv_dbl concE = g_ptDouble concFOps by kernel_rfl]
  exact ptDouble_at
noncomputable def X_vdbl (e : EOps) : Cx := { X_vpneg e with O := addQ (X_vpneg e).O 50 (lav (gv_dbl e)) }
theorem X_vdbl_ok : CxOK Tryz.prog (X_vdbl concE) := { X_vpneg_ok with quiet := addQ_ok X_vpneg_ok.quiet gv_dbl_at }
def gv_equal (e : EOps) (args : List LA) : Option (AV × Option Blk) := match args with
  | [.v x0, .v x1] => (match rungs? x0, rungs? x1 with
    | some p, some q => some (.bool (e.equal p q), none)
    | _, _ => none)
  | _ => none
theorem gv_equal_at : QuietAt Tryz.prog 16 (lav (gv_equal concE)) := by
  rw [show gv_equal concE = g_ptEqual concFOps by kernel_rfl]
  exact ptEqual_at
noncomputable def X_vequal (e : EOps) : Cx := { X_vdbl e with O := addQ (X_vdbl e).O 16 (lav (gv_equal e)) }
theorem X_vequal_ok : CxOK Tryz.prog (X_vequal concE) := { X_vdbl_ok with quiet := addQ_ok X_vdbl_ok.quiet gv_equal_at }
def gv_isn (e : EOps) (args : List LA) : Option (AV × Option Blk) := match args with
  | [.v x0] => (match rungs? x0 with
    | some p => some (.bool (e.isn p), none)
    | _ => none)
  | _ => none
theorem gv_isn_at : QuietAt Tryz.prog 18 (lav (gv_isn concE)) := by
  rw [show gv_isn concE = g_ptIsN concFOps by kernel_rfl]
  exact ptIsN_at
noncomputable def X_visn (e : EOps) : Cx := { X_vequal e with O := addQ (X_vequal e).O 18 (lav (gv_isn e)) }
theorem X_visn_ok : CxOK Tryz.prog (X_visn concE) := { X_vequal_ok with quiet := addQ_ok X_vequal_ok.quiet gv_isn_at }
def gv_small (e : EOps) (args : List LA) : Option (AV × Option Blk) := match args with
  | [.v x0] => (match rungs? x0 with
    | some p => some (.bool (e.small p), none)
    | _ => none)
  | _ => none
theorem gv_small_at : QuietAt Tryz.prog 20 (lav (gv_small concE)) := by
  rw [show gv_small concE = g_ptSmall concFOps by kernel_rfl]
  exact ptSmall_at
noncomputable def X_vsmall (e : EOps) : Cx := { X_visn e with O := addQ (X_visn e).O 20 (lav (gv_small e)) }
theorem X_vsmall_ok : CxOK Tryz.prog (X_vsmall concE) := { X_visn_ok with quiet := addQ_ok X_visn_ok.quiet gv_small_at }
def gv_scale (e : EOps) (args : List LA) : Option (AV × Option Blk) := match args with
  | [.v x0, .l b] => (match rungs? x0 with
    | some p => some (rungsV (e.scale p b), none)
    | _ => none)
  | _ => none
theorem gv_scale_at : QuietAt Tryz.prog 53 (lav fun args => bif c_ptScale args then gv_scale concE args else none) := by
  rw [show (fun args => bif c_ptScale args then gv_scale concE args else none) = g_ptScale concP by kernel_rfl]
  exact ptScale_at
noncomputable def X_vscale (e : EOps) : Cx := { X_vsmall e with O := addQ (X_vsmall e).O 53 (lavG c_ptScale (gv_scale e)) }
theorem X_vscale_ok : CxOK Tryz.prog (X_vscale concE) := { X_vsmall_ok with quiet := addQ_ok X_vsmall_ok.quiet (lavG_at gv_scale_at) }
def gv_times (e : EOps) (args : List LA) : Option (AV × Option Blk) := match args with
  | [.v x0, .v x1] => (match rungs? x0, key? x1 with
    | some p, some k => some (rungsV (e.times p k), none)
    | _, _ => none)
  | _ => none
theorem gv_times_at : QuietAt Tryz.prog 56 (lav (gv_times concE)) := by
  rw [show gv_times concE = g_ptTimes concP by kernel_rfl]
  exact ptTimes_at
noncomputable def X_vtimes (e : EOps) : Cx := { X_vscale e with O := addQ (X_vscale e).O 56 (lav (gv_times e)) }
theorem X_vtimes_ok : CxOK Tryz.prog (X_vtimes concE) := { X_vscale_ok with quiet := addQ_ok X_vscale_ok.quiet gv_times_at }
def gv_rbase (e : EOps) (args : List LA) : Option (AV × Option Blk) := match args with
  | [] => some (pt3V (e.rbase), none)
  | _ => none
theorem gv_rbase_at : QuietAt Tryz.prog 27 (lav (gv_rbase concE)) := by
  rw [show gv_rbase concE = g_rBase concFOps by kernel_rfl]
  exact rBase_at
noncomputable def X_vrbase (e : EOps) : Cx := { X_vtimes e with O := addQ (X_vtimes e).O 27 (lav (gv_rbase e)) }
theorem X_vrbase_ok : CxOK Tryz.prog (X_vrbase concE) := { X_vtimes_ok with quiet := addQ_ok X_vtimes_ok.quiet gv_rbase_at }
def gv_rparse (e : EOps) (args : List LA) : Option (AV × Option Blk) := match args with
  | [.v x0] => (match key? x0 with
    | some k => some (.tup [pt3V ((e.rparse k)).1, .n ((e.rparse k)).2], none)
    | _ => none)
  | _ => none
theorem gv_rparse_at : QuietAt Tryz.prog 41 (lav (gv_rparse concE)) := by
  rw [show gv_rparse concE = g_rParse concFOps by kernel_rfl]
  exact rParse_at
noncomputable def X_vrparse (e : EOps) : Cx := { X_vrbase e with O := addQ (X_vrbase e).O 41 (lav (gv_rparse e)) }
theorem X_vrparse_ok : CxOK Tryz.prog (X_vrparse concE) := { X_vrbase_ok with quiet := addQ_ok X_vrbase_ok.quiet gv_rparse_at }
def gv_rlift (e : EOps) (args : List LA) : Option (AV × Option Blk) := match args with
  | [.v x0, .v x1] => (match key? x0, bool? x1 with
    | some k, some b => some (.tup [pt3V ((e.rlift k b)).1, .n ((e.rlift k b)).2], none)
    | _, _ => none)
  | _ => none
theorem gv_rlift_at : QuietAt Tryz.prog 43 (lav (gv_rlift concE)) := by
  rw [show gv_rlift concE = g_rLift concFOps by kernel_rfl]
  exact rLift_at
noncomputable def X_vrlift (e : EOps) : Cx := { X_vrparse e with O := addQ (X_vrparse e).O 43 (lav (gv_rlift e)) }
theorem X_vrlift_ok : CxOK Tryz.prog (X_vrlift concE) := { X_vrparse_ok with quiet := addQ_ok X_vrparse_ok.quiet gv_rlift_at }
def gv_rbytes (e : EOps) (args : List LA) : Option (AV × Option Blk) := match args with
  | [.v x0] => (match pt3? x0 with
    | some p => some (keyV (e.rbytes p), none)
    | _ => none)
  | _ => none
theorem gv_rbytes_at : QuietAt Tryz.prog 13 (lav (gv_rbytes concE)) := by
  rw [show gv_rbytes concE = g_rBytes concFOps by kernel_rfl]
  exact rBytes_at
noncomputable def X_vrbytes (e : EOps) : Cx := { X_vrlift e with O := addQ (X_vrlift e).O 13 (lav (gv_rbytes e)) }
theorem X_vrbytes_ok : CxOK Tryz.prog (X_vrbytes concE) := { X_vrlift_ok with quiet := addQ_ok X_vrlift_ok.quiet gv_rbytes_at }
def gv_ru (e : EOps) (args : List LA) : Option (AV × Option Blk) := match args with
  | [.v x0] => (match pt3? x0 with
    | some p => some (keyV (e.ru p), none)
    | _ => none)
  | _ => none
theorem gv_ru_at : QuietAt Tryz.prog 15 (lav (gv_ru concE)) := by
  rw [show gv_ru concE = g_rU concFOps by kernel_rfl]
  exact rU_at
noncomputable def X_vru (e : EOps) : Cx := { X_vrbytes e with O := addQ (X_vrbytes e).O 15 (lav (gv_ru e)) }
theorem X_vru_ok : CxOK Tryz.prog (X_vru concE) := { X_vrbytes_ok with quiet := addQ_ok X_vrbytes_ok.quiet gv_ru_at }
def gv_radd (e : EOps) (args : List LA) : Option (AV × Option Blk) := match args with
  | [.v x0, .v x1] => (match pt3? x0, pt3? x1 with
    | some p, some q => some (pt3V (e.radd p q), none)
    | _, _ => none)
  | _ => none
theorem gv_radd_at : QuietAt Tryz.prog 45 (lav (gv_radd concE)) := by
  rw [show gv_radd concE = g_rAdd concFOps by kernel_rfl]
  exact rAdd_at
noncomputable def X_vradd (e : EOps) : Cx := { X_vru e with O := addQ (X_vru e).O 45 (lav (gv_radd e)) }
theorem X_vradd_ok : CxOK Tryz.prog (X_vradd concE) := { X_vru_ok with quiet := addQ_ok X_vru_ok.quiet gv_radd_at }
def gv_rsub (e : EOps) (args : List LA) : Option (AV × Option Blk) := match args with
  | [.v x0, .v x1] => (match pt3? x0, pt3? x1 with
    | some p, some q => some (pt3V (e.rsub p q), none)
    | _, _ => none)
  | _ => none
theorem gv_rsub_at : QuietAt Tryz.prog 47 (lav (gv_rsub concE)) := by
  rw [show gv_rsub concE = g_rSub concFOps by kernel_rfl]
  exact rSub_at
noncomputable def X_vrsub (e : EOps) : Cx := { X_vradd e with O := addQ (X_vradd e).O 47 (lav (gv_rsub e)) }
theorem X_vrsub_ok : CxOK Tryz.prog (X_vrsub concE) := { X_vradd_ok with quiet := addQ_ok X_vradd_ok.quiet gv_rsub_at }
def gv_rneg (e : EOps) (args : List LA) : Option (AV × Option Blk) := match args with
  | [.v x0] => (match pt3? x0 with
    | some p => some (pt3V (e.rneg p), none)
    | _ => none)
  | _ => none
theorem gv_rneg_at : QuietAt Tryz.prog 49 (lav (gv_rneg concE)) := by
  rw [show gv_rneg concE = g_rNeg concFOps by kernel_rfl]
  exact rNeg_at
noncomputable def X_vrneg (e : EOps) : Cx := { X_vrsub e with O := addQ (X_vrsub e).O 49 (lav (gv_rneg e)) }
theorem X_vrneg_ok : CxOK Tryz.prog (X_vrneg concE) := { X_vrsub_ok with quiet := addQ_ok X_vrsub_ok.quiet gv_rneg_at }
def gv_rdbl (e : EOps) (args : List LA) : Option (AV × Option Blk) := match args with
  | [.v x0] => (match pt3? x0 with
    | some p => some (pt3V (e.rdbl p), none)
    | _ => none)
  | _ => none
theorem gv_rdbl_at : QuietAt Tryz.prog 51 (lav (gv_rdbl concE)) := by
  rw [show gv_rdbl concE = g_rDouble concFOps by kernel_rfl]
  exact rDouble_at
noncomputable def X_vrdbl (e : EOps) : Cx := { X_vrneg e with O := addQ (X_vrneg e).O 51 (lav (gv_rdbl e)) }
theorem X_vrdbl_ok : CxOK Tryz.prog (X_vrdbl concE) := { X_vrneg_ok with quiet := addQ_ok X_vrneg_ok.quiet gv_rdbl_at }
def gv_requal (e : EOps) (args : List LA) : Option (AV × Option Blk) := match args with
  | [.v x0, .v x1] => (match pt3? x0, pt3? x1 with
    | some p, some q => some (.bool (e.requal p q), none)
    | _, _ => none)
  | _ => none
theorem gv_requal_at : QuietAt Tryz.prog 17 (lav (gv_requal concE)) := by
  rw [show gv_requal concE = g_rEqual concFOps by kernel_rfl]
  exact rEqual_at
noncomputable def X_vrequal (e : EOps) : Cx := { X_vrdbl e with O := addQ (X_vrdbl e).O 17 (lav (gv_requal e)) }
theorem X_vrequal_ok : CxOK Tryz.prog (X_vrequal concE) := { X_vrdbl_ok with quiet := addQ_ok X_vrdbl_ok.quiet gv_requal_at }
def gv_risn (e : EOps) (args : List LA) : Option (AV × Option Blk) := match args with
  | [.v x0] => (match pt3? x0 with
    | some p => some (.bool (e.risn p), none)
    | _ => none)
  | _ => none
theorem gv_risn_at : QuietAt Tryz.prog 19 (lav (gv_risn concE)) := by
  rw [show gv_risn concE = g_rIsN concFOps by kernel_rfl]
  exact rIsN_at
noncomputable def X_vrisn (e : EOps) : Cx := { X_vrequal e with O := addQ (X_vrequal e).O 19 (lav (gv_risn e)) }
theorem X_vrisn_ok : CxOK Tryz.prog (X_vrisn concE) := { X_vrequal_ok with quiet := addQ_ok X_vrequal_ok.quiet gv_risn_at }
def gv_rsmall (e : EOps) (args : List LA) : Option (AV × Option Blk) := match args with
  | [.v x0] => (match pt3? x0 with
    | some p => some (.bool (e.rsmall p), none)
    | _ => none)
  | _ => none
theorem gv_rsmall_at : QuietAt Tryz.prog 21 (lav (gv_rsmall concE)) := by
  rw [show gv_rsmall concE = g_rSmall concFOps by kernel_rfl]
  exact rSmall_at
noncomputable def X_vrsmall (e : EOps) : Cx := { X_vrisn e with O := addQ (X_vrisn e).O 21 (lav (gv_rsmall e)) }
theorem X_vrsmall_ok : CxOK Tryz.prog (X_vrsmall concE) := { X_vrisn_ok with quiet := addQ_ok X_vrisn_ok.quiet gv_rsmall_at }
def gv_rscale (e : EOps) (args : List LA) : Option (AV × Option Blk) := match args with
  | [.v x0, .l b] => (match pt3? x0 with
    | some p => some (pt3V (e.rscale p b), none)
    | _ => none)
  | _ => none
theorem gv_rscale_at : QuietAt Tryz.prog 54 (lav fun args => bif c_rScale args then gv_rscale concE args else none) := by
  rw [show (fun args => bif c_rScale args then gv_rscale concE args else none) = g_rScale concP by kernel_rfl]
  exact rScale_at
noncomputable def X_vrscale (e : EOps) : Cx := { X_vrsmall e with O := addQ (X_vrsmall e).O 54 (lavG c_rScale (gv_rscale e)) }
theorem X_vrscale_ok : CxOK Tryz.prog (X_vrscale concE) := { X_vrsmall_ok with quiet := addQ_ok X_vrsmall_ok.quiet (lavG_at gv_rscale_at) }
def gv_swhole (e : EOps) (args : List LA) : Option (AV × Option Blk) := match args with
  | [.v x0] => (match key? x0 with
    | some k => some (.tup [keyV ((e.swhole k)).1, .n ((e.swhole k)).2], none)
    | _ => none)
  | _ => none
theorem gv_swhole_at : QuietAt Tryz.prog 60 (lav (gv_swhole concE)) := by
  rw [show gv_swhole concE = g_sWhole concNOps by kernel_rfl]
  exact sWhole_at
noncomputable def X_vswhole (e : EOps) : Cx := { X_vrscale e with O := addQ (X_vrscale e).O 60 (lav (gv_swhole e)) }
theorem X_vswhole_ok : CxOK Tryz.prog (X_vswhole concE) := { X_vrscale_ok with quiet := addQ_ok X_vrscale_ok.quiet gv_swhole_at }
theorem sbytesE_run (e : EOps) (k : K32) : runNL (X_vswhole e) [] [0,1,2] 200 Tryz.f22 (bodyOf Tryz.f22) (laArgs [.v (keyV k)] 0) (laLists [.v (keyV k)]) = some (keyV k, none) := by
  kernel_rfl
def g_sbytesE (_ : EOps) (args : List LA) : Option (AV × Option Blk) := match args with
  | [.v x0] => (match key? x0 with
    | some k => some (keyV k, none)
    | _ => none)
  | _ => none
theorem sbytesE_at : QuietAt Tryz.prog 22 (lav (g_sbytesE concE)) := by
  refine quietAt_of_runA X_vswhole_ok (L := []) (keep := [0,1,2]) Tryz.func22 (c := bodyOf Tryz.f22) (by kernel_rfl) (by kernel_rfl) (LoopsOK.nil) fun args v h hw => ⟨200, ?_⟩
  unfold g_sbytesE at h
  split at h
  · rename_i x0
    split at h
    · rename_i k hh0
      have ehh0 := key?_some hh0
      subst ehh0
      rw [← h]
      refine (sbytesE_run concE k).trans ?_
      rfl
    · cases h
  · cases h
noncomputable def X_sbytesE (e : EOps) : Cx := { X_vswhole e with O := addQ (X_vswhole e).O 22 (lav (g_sbytesE e)) }
theorem X_sbytesE_ok : CxOK Tryz.prog (X_sbytesE concE) := { X_vswhole_ok with quiet := addQ_ok X_vswhole_ok.quiet sbytesE_at }
def gv_sadd (e : EOps) (args : List LA) : Option (AV × Option Blk) := match args with
  | [.v x0, .v x1] => (match key? x0, key? x1 with
    | some a, some b => some (keyV (e.sadd a b), none)
    | _, _ => none)
  | _ => none
theorem gv_sadd_at : QuietAt Tryz.prog 62 (lav (gv_sadd concE)) := by
  rw [show gv_sadd concE = g_sAdd concNOps by kernel_rfl]
  exact sAdd_at
noncomputable def X_vsadd (e : EOps) : Cx := { X_sbytesE e with O := addQ (X_sbytesE e).O 62 (lav (gv_sadd e)) }
theorem X_vsadd_ok : CxOK Tryz.prog (X_vsadd concE) := { X_sbytesE_ok with quiet := addQ_ok X_sbytesE_ok.quiet gv_sadd_at }
def gv_ssub (e : EOps) (args : List LA) : Option (AV × Option Blk) := match args with
  | [.v x0, .v x1] => (match key? x0, key? x1 with
    | some a, some b => some (keyV (e.ssub a b), none)
    | _, _ => none)
  | _ => none
theorem gv_ssub_at : QuietAt Tryz.prog 64 (lav (gv_ssub concE)) := by
  rw [show gv_ssub concE = g_sSub concNOps by kernel_rfl]
  exact sSub_at
noncomputable def X_vssub (e : EOps) : Cx := { X_vsadd e with O := addQ (X_vsadd e).O 64 (lav (gv_ssub e)) }
theorem X_vssub_ok : CxOK Tryz.prog (X_vssub concE) := { X_vsadd_ok with quiet := addQ_ok X_vsadd_ok.quiet gv_ssub_at }
def gv_smul (e : EOps) (args : List LA) : Option (AV × Option Blk) := match args with
  | [.v x0, .v x1] => (match key? x0, key? x1 with
    | some a, some b => some (keyV (e.smul a b), none)
    | _, _ => none)
  | _ => none
theorem gv_smul_at : QuietAt Tryz.prog 66 (lav (gv_smul concE)) := by
  rw [show gv_smul concE = g_sMul concNOps by kernel_rfl]
  exact sMul_at
noncomputable def X_vsmul (e : EOps) : Cx := { X_vssub e with O := addQ (X_vssub e).O 66 (lav (gv_smul e)) }
theorem X_vsmul_ok : CxOK Tryz.prog (X_vsmul concE) := { X_vssub_ok with quiet := addQ_ok X_vssub_ok.quiet gv_smul_at }
def gv_sneg (e : EOps) (args : List LA) : Option (AV × Option Blk) := match args with
  | [.v x0] => (match key? x0 with
    | some a => some (keyV (e.sneg a), none)
    | _ => none)
  | _ => none
theorem gv_sneg_at : QuietAt Tryz.prog 68 (lav (gv_sneg concE)) := by
  rw [show gv_sneg concE = g_sNeg concNOps by kernel_rfl]
  exact sNeg_at
noncomputable def X_vsneg (e : EOps) : Cx := { X_vsmul e with O := addQ (X_vsmul e).O 68 (lav (gv_sneg e)) }
theorem X_vsneg_ok : CxOK Tryz.prog (X_vsneg concE) := { X_vsmul_ok with quiet := addQ_ok X_vsmul_ok.quiet gv_sneg_at }
def gv_sisz (e : EOps) (args : List LA) : Option (AV × Option Blk) := match args with
  | [.v x0] => (match key? x0 with
    | some a => some (.bool (e.sisz a), none)
    | _ => none)
  | _ => none
theorem gv_sisz_at : QuietAt Tryz.prog 24 (lav (gv_sisz concE)) := by
  rw [show gv_sisz concE = g_sIsZero concNOps by kernel_rfl]
  exact sIsZero_at
noncomputable def X_vsisz (e : EOps) : Cx := { X_vsneg e with O := addQ (X_vsneg e).O 24 (lav (gv_sisz e)) }
theorem X_vsisz_ok : CxOK Tryz.prog (X_vsisz concE) := { X_vsneg_ok with quiet := addQ_ok X_vsneg_ok.quiet gv_sisz_at }
def gv_sred (e : EOps) (args : List LA) : Option (AV × Option Blk) := match args with
  | [.l b] => some (keyV (e.sred b), none)
  | _ => none
theorem gv_sred_at : QuietAt Tryz.prog 58 (lav fun args => bif c_sReduce args then gv_sred concE args else none) := by
  rw [show (fun args => bif c_sReduce args then gv_sred concE args else none) = g_sReduce concNOps by kernel_rfl]
  exact sReduce_at
noncomputable def X_vsred (e : EOps) : Cx := { X_vsisz e with O := addQ (X_vsisz e).O 58 (lavG c_sReduce (gv_sred e)) }
theorem X_vsred_ok : CxOK Tryz.prog (X_vsred concE) := { X_vsisz_ok with quiet := addQ_ok X_vsisz_ok.quiet (lavG_at gv_sred_at) }
end Go.Proofs.YtpmbfepkdjkheaaGreat

