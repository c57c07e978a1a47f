/- The law FnWordsAwaited, its third part: the rows without the word are counted (at most six trials). Conditions: what is stated. -/
import Derived.Test.YtpfaefflbjpllaaAwaitedD
namespace Go.Proofs.Ytpfaefflbjpllaa
open Go.ChangeShapes Go.WideShapes Go.ChangeAt Go.RowKit

set_option maxRecDepth 1000000 in
set_option maxHeartbeats 6400000 in
theorem partC1 (A1 : Option Addr) (n1 c1 : Nat) (x1 : List Int) (gw n cw s t : Nat) (ws : List Int) {s0 s2 s3 s4 s5 s8 s9 s10 s11 s12 s13 s14 s15 s16 s17 s18 s19 s20 s21 s22 s24 s25 s26 s27 s28 s29 s30 s31 s32 s33 s34 s35 s36 s37 s38 s39 s40 s41 s42 s43 s44 s45 s46 s47 s48 s49 s50 s51 s52 s53 s54 s55 s56 s57 s58 s59 s60 s61 s62 s63 s64 s65 s66 s67 s68 s69 s70 s71 s72 s73 s74 s75 s76 s77 s78 s79 s80 s81 s82 s83 s84 s85 s86 s87 s88 s89 s90 s91 s92 s93 s94 s95 s96 s97 s98 s99 s100 s101 s102 s103 s104 s105 s106 s107 s108 s109 s110 s111 s112 s113 s114 s115 s116 s117 s118 s119 s120 s121 s122 s123 s124 s125 s126 s127 s128 s129 s130 s131 s132 s133 s134 s135 s136 s137 s138 s139 s140 s141 s142 s143 s144 s145 s146 s147 s148 s149 s150 s151 s152 s153 s154 s155 s156 s157 s158 s159 s160 s161 s162 s163 s164 s165 s166 s167 s168 s169 s170 s171 s172 s173 s174 s175 s176 s177 s178 s179 s180 s181 s182 s183 s184 s185 s186 s187 s188 s189 s190 s191 s192 s193 s194 s195 s196 s197 s198 s199 s200 s201 s202 s203 s204 s205 s206 s207 s208 s209 s210 s211 s212 s213 s214 s215 s216 s217 s218 s219 s220 s221 s222 s223 s224 s225 s226 s227 s228 s229 s230 s231 s232 s233 s234 s235 s236 s237 s238 s239 s240 s241 s242 s243 s244 s245 s246 s247 s248 s249 s250 s251 s252 s253 s254 s255 s256 s257 s258 s259 s260 s261 s262 s263 s264 s265 s266 s267 s268 s269 s270 s271 s272 s273 s274 s275 s276 s277 s278 s279 s280 s281 s282 s283 s284 s285 s286 s287 s288 s289 s290 s291 s292 s293 s294 s295 s296 s297 s298 s299 s300 s301 s302 s303 s304 s305 s306 s307 s308 s309 s310 s311 s312 s313 s314 s315 s316 s317 s318 s319 s320 s321 s322 s323 s324 s325 s326 s327 s328 s329 s330 s331 s332 s333 s334 s335 s336 s337 s338 : Value} (w w1 : World) (hr1 : RdU w A1 n1 x1) (hn48 : n1 ≤ 48) (hwd : wordB ws (s : Int) = true) (hl : ws.length = n) (hn1 : 1 ≤ n) (hn6 : n ≤ 6)
    (hs2 : 2 ≤ s) (hs3 : s ≤ 3) (ht9 : t ≤ 9) (ht6 : t ≤ 6) (hv : RV w1 (.slice (some ⟨gw, 0, none⟩) n cw) ws) (hb : Below w.heap.size w w1) :
    Code.wp Try.prog ((Try.f10.body.bind (sufK 26)).getD .skip) (bodyPost Try.prog Try.f10 fun e w9 => e = .returned (.bool true) ∧ Below w.heap.size w w9) ⟨#[s0, .slice A1 n1 c1, s2, s3, s4, s5, .int .i64 (s : Int), .slice (some ⟨gw, 0, none⟩) n cw, s8, s9, s10, s11, s12, s13, s14, s15, s16, s17, s18, s19, s20, s21, s22, .int .i64 (t : Int), s24, s25, s26, s27, s28, s29, s30, s31, s32, s33, s34, s35, s36, s37, s38, s39, s40, s41, s42, s43, s44, s45, s46, s47, s48, s49, s50, s51, s52, s53, s54, s55, s56, s57, s58, s59, s60, s61, s62, s63, s64, s65, s66, s67, s68, s69, s70, s71, s72, s73, s74, s75, s76, s77, s78, s79, s80, s81, s82, s83, s84, s85, s86, s87, s88, s89, s90, s91, s92, s93, s94, s95, s96, s97, s98, s99, s100, s101, s102, s103, s104, s105, s106, s107, s108, s109, s110, s111, s112, s113, s114, s115, s116, s117, s118, s119, s120, s121, s122, s123, s124, s125, s126, s127, s128, s129, s130, s131, s132, s133, s134, s135, s136, s137, s138, s139, s140, s141, s142, s143, s144, s145, s146, s147, s148, s149, s150, s151, s152, s153, s154, s155, s156, s157, s158, s159, s160, s161, s162, s163, s164, s165, s166, s167, s168, s169, s170, s171, s172, s173, s174, s175, s176, s177, s178, s179, s180, s181, s182, s183, s184, s185, s186, s187, s188, s189, s190, s191, s192, s193, s194, s195, s196, s197, s198, s199, s200, s201, s202, s203, s204, s205, s206, s207, s208, s209, s210, s211, s212, s213, s214, s215, s216, s217, s218, s219, s220, s221, s222, s223, s224, s225, s226, s227, s228, s229, s230, s231, s232, s233, s234, s235, s236, s237, s238, s239, s240, s241, s242, s243, s244, s245, s246, s247, s248, s249, s250, s251, s252, s253, s254, s255, s256, s257, s258, s259, s260, s261, s262, s263, s264, s265, s266, s267, s268, s269, s270, s271, s272, s273, s274, s275, s276, s277, s278, s279, s280, s281, s282, s283, s284, s285, s286, s287, s288, s289, s290, s291, s292, s293, s294, s295, s296, s297, s298, s299, s300, s301, s302, s303, s304, s305, s306, s307, s308, s309, s310, s311, s312, s313, s314, s315, s316, s317, s318, s319, s320, s321, s322, s323, s324, s325, s326, s327, s328, s329, s330, s331, s332, s333, s334, s335, s336, s337, s338], []⟩ w1 := by
  have HC1 := Lib.hid (fun W i k (hb : Below w.heap.size w W) a b c d => rAt A1 n1 c1 x1 i k W (hr1.below hb) hn48 a b c d)
  have HW1 := Lib.hid (fun W N m (hb : Below w.heap.size w W) a b c => sBelow A1 n1 c1 N m x1 W (hr1.below hb) (by omega) a b c)
  have hwf : (Lit.int .i64 (s : Int)).wf = true := WalkArith.wf_i64 (by omega)
  obtain ⟨hF, hFl, hpw⟩ := free_facts (t := t) hwd (by omega) hs2 hs3 ht9
  have HFr := Lib.hid (iWordFree _ ws (s : Int) (t : Int) w1 hv (by omega) hwf (WalkArith.wf_i64 (by omega)))
  rw [hF] at HFr
  have HPt := Lib.hid (fun W => lPow s t W (by omega) (by omega) (by omega) (by omega))
  have HXi := Lib.hid (fun x h => cX_in (ws := ws) (s := s) (t := t) (x := x) h)
  have HXo := Lib.hid (fun x h => cX_out (ws := ws) (s := s) (t := t) (x := x) h)
  have HXl := Lib.hid (fun x => cX_le ws s t x)
  have HX0 : Hid (cX ws s t 0 = 0) := hide rfl
  have HRo := Lib.hid (fun j x => rowOf_succ s j x)
  have HR0 := Lib.hid (fun x => show rowOf s 0 x = [] from rfl)
  have HRl := Lib.hid (fun j x => rowOf_len s j x)
  have Hdv : Hid (∀ j x, x / s ^ (j + 1) = x / s ^ j / s) := hide fun j x => by rw [Nat.pow_succ, Nat.div_div_eq_div_mul]
  have Hd0 : Hid (∀ x, x / s ^ 0 = x) := hide fun x => by simp
  have Hdl : Hid (∀ j x, x / s ^ j ≤ x) := hide fun j x => Nat.div_le_self _ _
  have HIn := Lib.hid (fun W u ys (h1 : RV W (.slice (some ⟨gw, 0, none⟩) n cw) ws) h2 hy => lInW _ u ws ys W h1 h2 (by omega) hy (by omega))
  have hPW0 : 0 < s ^ t := Nat.pow_pos (by omega)
  rw [show cA ws s t = cX ws s t (s ^ t) from rfl] at HFr hFl
  obtain ⟨DV, hDV⟩ : ∃ DV : Nat → Nat → Nat, ∀ j x, x / s ^ j = DV j x := ⟨_, fun _ _ => rfl⟩
  simp only [hDV] at HRo Hdv Hd0 Hdl
  generalize s ^ t = PW at *
  generalize cX ws s t = CX at *
  generalize rowOf s = RO at *
  have HV := hide hv
  have HB := hide hb
  clear hF hwd hl hr1 hn48 hDV hv hb
  conv => arg 2; whnf
  go_wp2_with fail
  refine HFr.out.mono ?_
  rintro e w2 ⟨rfl, b2⟩
  have HV2 := hide (HV.out.below b2)
  have HB2 := hide (HB.out.trans (b2.mono HB.out.size))
  clear b2
  go_wp2
  go_loopw [26, 27] (fun c x wr => ∃ x0 : Nat, x = .int .i64 (x0 : Int) ∧ x0 ≤ PW ∧ c = .int .i64 ((CX x0 : Nat) : Int) ∧ (6 < t → x0 = 0) ∧ Hid (RV wr (.slice (some ⟨gw, 0, none⟩) n cw) ws) ∧ Below w.heap.size w wr) (fun _ x _ => PW + 1 - (intOf x).toNat)
  case atStart => exact ⟨0, rfl, Nat.zero_le _, by rw [HX0.out]; rfl, fun _ => rfl, HV2, HB2.out⟩
  case round =>
    obtain ⟨x, rfl, hxP, rfl, hx6, hvr, hbr⟩ := hrel
    have hcl := HXl.out x
    have Hx6 := hide hx6
    clear hx6
    obtain ⟨wo, rfl⟩ : ∃ wo : World, wo = wr := ⟨_, rfl⟩
    go_wp2_with fail
    refine (HPt.out _).mono ?_
    rintro e w' ⟨rfl, rfl⟩
    by_cases hlt : x < PW
    · have hzr := hbr.size
      go_wp2
      go_loopw [28, 29, 30] (fun r y j wq => ∃ j0 : Nat, j = .int .i64 (j0 : Int) ∧ j0 ≤ t ∧ y = .int .i64 ((DV j0 x : Nat) : Int) ∧ OwnL wq wo.heap.size r (RO j0 x) ∧ Below wo.heap.size wo wq) (fun _ _ j _ => t + 1 - (intOf j).toNat)
      case atStart => exact ⟨0, rfl, Nat.zero_le _, by rw [Hd0.out], by rw [HR0.out]; exact OwnL.empty _ _ rfl (Nat.le_refl _), (Below.refl wo.heap.size wo).alloc (Nat.le_refl _) _⟩
      case round =>
        obtain ⟨j, rfl, hjt, rfl, ho, hbq⟩ := hrel
        obtain ⟨wq, rfl⟩ : ∃ wq : World, wq = wr := ⟨_, rfl⟩
        have hzq := hbq.size
        by_cases hj : j < t
        · have hdl := Hdl.out j x
          have hro := hide (HRo.out j x)
          have hdv := hide (Hdv.out j x)
          have hlen : (RO j x).length ≤ 1048576 := by rw [HRl.out]; omega
          generalize DV j x = y at *
          obtain ⟨r, hrr⟩ : ∃ r, y % s = r := ⟨_, rfl⟩
          obtain ⟨q, hqq⟩ : ∃ q, y / s = q := ⟨_, rfl⟩
          rw [hrr] at hro
          rw [hqq] at hdv
          have em : Int.tmod (y : Int) (s : Int) = (r : Int) := by rw [← hrr]; exact (Int.ofNat_tmod _ _).symm
          have em2 : (y : Int) % (s : Int) = (r : Int) := by rw [← hrr]; simp
          have ed : Int.tdiv (y : Int) (s : Int) = (q : Int) := by rw [Int.tdiv_eq_ediv_of_nonneg (by omega), ← Int.natCast_ediv, hqq]
          have ed2 : (y : Int) / (s : Int) = (q : Int) := by rw [← Int.natCast_ediv, hqq]
          have hs0 : ¬ s = 0 := by omega
          have hq : q ≤ 19683 := by rw [← hqq]; exact Nat.le_trans (Nat.div_le_self _ _) (by omega)
          clear hrr hqq
          go_wp2_with (at_builtin; refine app1 ho hlen hzq rfl rfl rfl rfl ?_; intro v4 w4 ho4 hg4)
          go_roundw
          case rel =>
            refine ⟨j + 1, by go_num, by omega, ?_, by rw [hro.out]; exact ho4, hbq.grown hg4 hzq (fun g e => by have := (ho.lt g e).1; omega)⟩
            rw [hdv.out]
          case measure => simp [intOf]; omega
        · have hjt2 : j = t := by omega
          subst hjt2
          have Hrw := hide ho.own.rv
          have HVq := hide (hvr.out.below hbq)
          have HBq := hide (hbr.trans (hbq.mono hzr))
          have hlr := HRl.out j x
          clear ho hbq hjt
          have hIn := Lib.hid (fun (u : Value) (h2 : RV wq u (RO j x)) => HIn.out wq u (RO j x) HVq.out h2 (by omega))
          cases hE : inW ws (RO j x) with
          | true =>
            have hcx := hide (HXi.out x hE)
            rw [hE] at hIn
            go_wp2_with fail
            refine (hIn.out _ Hrw.out).mono ?_
            rintro e w' ⟨rfl, q, rfl⟩
            go_wp2
            go_roundw
            case rel => exact ⟨x + 1, by go_num, by omega, by rw [hcx.out], fun h => absurd h (by omega), hide (HVq.out.drewN q), below_drewN HBq.out q⟩
            case measure => simp [intOf]; omega
          | false =>
            have hcx := hide (HXo.out x hE)
            rw [hE] at hIn
            go_wp2_with fail
            refine (hIn.out _ Hrw.out).mono ?_
            rintro e w' ⟨rfl, q, rfl⟩
            go_wp2
            go_roundw
            case rel => exact ⟨x + 1, by go_num, by omega, by rw [hcx.out]; go_num, fun h => absurd h (by omega), hide (HVq.out.drewN q), below_drewN HBq.out q⟩
            case measure => simp [intOf]; omega
    · have hxPW : x = PW := by omega
      subst hxPW
      go_upto_region 45 with fail
      go_cut [31] (fun u wx => ∃ (bits : List Int) (w9 : World), wx = w9 ∧ RV w9 u bits ∧ InM 2 bits ∧ 3 ≤ bits.length ∧ bits.length ≤ 5 ∧ Below w.heap.size w w9)
      case first =>
        go_wp2_with fail
        refine (HC1.out _ 44 3 hbr (by omega) (by omega) (by omega) (by omega)).mono ?_
        rintro e w' ⟨⟨d, rfl, hd⟩, rfl⟩
        obtain ⟨nb, hnb⟩ : ∃ nb : Nat, nb = 3 + d := ⟨_, rfl⟩
        have enb : (3 : Int) + (d : Int) = (nb : Int) := by omega
        have hn3 : 3 ≤ nb := by omega
        have hn5 : nb ≤ 5 := by omega
        clear hnb hd
        go_wp2_with fail
        refine (HW1.out _ nb 2 hbr (by omega) (by omega) (by omega)).mono ?_
        rintro e w3 ⟨vb, bits, rfl, ho3, hl3, hin3, b3⟩
        go_wp2
        go_meet
        exact ⟨bits, _, rfl, ho3.rv, hin3, by omega, by omega, hbr.trans (b3.mono hbr.size)⟩
      case rest =>
        obtain ⟨bits, _, rfl, hv3, hin3, h33, h35, hb3⟩ := hcut
        refine (by assumption : ∀ (a : Act) (w9 : World), Code.wp Try.prog ((Try.f10.body.bind (sufK 46)).getD .skip) _ a w9 → _) _ _ ?_
        exact partD bits w _ hv3 hin3 h33 h35 hb3
end Go.Proofs.Ytpfaefflbjpllaa
