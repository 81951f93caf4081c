/- THE TABLE OF FUNCTIONS of this translation, by program (genfun.py). -/
import Derived.Test.YtgbpggllmcpicaaGreatTab
import Derived.Test.YtgbpggllmcpicaaGreatMachZ
namespace Go.Xm
open Go Go.Cr Go.Proofs
def Tr.All {α : Type} (p : Nat → α → Prop) : Tr α → Prop
  | .nil => True
  | .node l v r => Tr.All (fun n x => p (2 * n + 1) x) l ∧ (match v with | none => True | some x => p 0 x) ∧ Tr.All (fun n x => p (2 * n + 2) x) r
theorem Tr.All.get {α : Type} : ∀ (t : Tr α) (p : Nat → α → Prop), Tr.All p t → ∀ n x, t.get n = some x → p n x
  | .nil, _, _, n, x, h => by rw [Tr.get_nil] at h; cases h
  | .node l v r, p, ⟨hl, hv, hr⟩, 0, x, h => by rw [Tr.get_zero] at h; subst h; exact hv
  | .node l v r, p, ⟨hl, hv, hr⟩, m + 1, x, h => by
    rw [Tr.get_succ] at h
    cases hb : Nat.beq (m % 2) 0 with
    | true =>
      have := Nat.eq_of_beq_eq_true hb
      rw [hb] at h
      have := Tr.All.get l _ hl (m / 2) x h
      rwa [show 2 * (m / 2) + 1 = m + 1 by omega] at this
    | false =>
      have := Nat.ne_of_beq_eq_false hb
      rw [hb] at h
      have := Tr.All.get r _ hr (m / 2) x h
      rwa [show 2 * (m / 2) + 2 = m + 1 by omega] at this
abbrev FOk (k : Nat) (fn : Func) : Prop := Pr.funcs[k]? = some fn ∧ (fn.name == "runtime.NumGoroutine") = false
theorem ok2 : FOk 2 Tryz.f2 := ⟨Tryz.func2, by kernel_rfl⟩
theorem ok3 : FOk 3 Tryz.f3 := ⟨Tryz.func3, by kernel_rfl⟩
theorem ok4 : FOk 4 Tryz.f4 := ⟨Tryz.func4, by kernel_rfl⟩
theorem ok5 : FOk 5 Tryz.f5 := ⟨Tryz.func5, by kernel_rfl⟩
theorem ok6 : FOk 6 Tryz.f6 := ⟨Tryz.func6, by kernel_rfl⟩
theorem ok7 : FOk 7 Tryz.f7 := ⟨Tryz.func7, by kernel_rfl⟩
theorem ok8 : FOk 8 Tryz.f8 := ⟨Tryz.func8, by kernel_rfl⟩
theorem ok9 : FOk 9 Tryz.f9 := ⟨Tryz.func9, by kernel_rfl⟩
theorem ok10 : FOk 10 Tryz.f10 := ⟨Tryz.func10, by kernel_rfl⟩
theorem ok11 : FOk 11 Tryz.f11 := ⟨Tryz.func11, by kernel_rfl⟩
theorem ok12 : FOk 12 Tryz.f12 := ⟨Tryz.func12, by kernel_rfl⟩
theorem ok13 : FOk 13 Tryz.f13 := ⟨Tryz.func13, by kernel_rfl⟩
theorem ok14 : FOk 14 Tryz.f14 := ⟨Tryz.func14, by kernel_rfl⟩
theorem ok15 : FOk 15 Tryz.f15 := ⟨Tryz.func15, by kernel_rfl⟩
theorem ok16 : FOk 16 Tryz.f16 := ⟨Tryz.func16, by kernel_rfl⟩
theorem ok17 : FOk 17 Tryz.f17 := ⟨Tryz.func17, by kernel_rfl⟩
theorem ok18 : FOk 18 Tryz.f18 := ⟨Tryz.func18, by kernel_rfl⟩
theorem ok19 : FOk 19 Tryz.f19 := ⟨Tryz.func19, by kernel_rfl⟩
theorem ok20 : FOk 20 Tryz.f20 := ⟨Tryz.func20, by kernel_rfl⟩
theorem ok21 : FOk 21 Tryz.f21 := ⟨Tryz.func21, by kernel_rfl⟩
theorem ok22 : FOk 22 Tryz.f22 := ⟨Tryz.func22, by kernel_rfl⟩
theorem ok23 : FOk 23 Tryz.f23 := ⟨Tryz.func23, by kernel_rfl⟩
theorem ok24 : FOk 24 Tryz.f24 := ⟨Tryz.func24, by kernel_rfl⟩
theorem ok25 : FOk 25 Tryz.f25 := ⟨Tryz.func25, by kernel_rfl⟩
theorem ok26 : FOk 26 Tryz.f26 := ⟨Tryz.func26, by kernel_rfl⟩
theorem ok27 : FOk 27 Tryz.f27 := ⟨Tryz.func27, by kernel_rfl⟩
theorem ok28 : FOk 28 Tryz.f28 := ⟨Tryz.func28, by kernel_rfl⟩
theorem ok29 : FOk 29 Tryz.f29 := ⟨Tryz.func29, by kernel_rfl⟩
theorem ok30 : FOk 30 Tryz.f30 := ⟨Tryz.func30, by kernel_rfl⟩
theorem ok31 : FOk 31 Tryz.f31 := ⟨Tryz.func31, by kernel_rfl⟩
theorem ok32 : FOk 32 Tryz.f32 := ⟨Tryz.func32, by kernel_rfl⟩
theorem ok33 : FOk 33 Tryz.f33 := ⟨Tryz.func33, by kernel_rfl⟩
theorem ok34 : FOk 34 Tryz.f34 := ⟨Tryz.func34, by kernel_rfl⟩
theorem ok35 : FOk 35 Tryz.f35 := ⟨Tryz.func35, by kernel_rfl⟩
theorem ok36 : FOk 36 Tryz.f36 := ⟨Tryz.func36, by kernel_rfl⟩
theorem ok37 : FOk 37 Tryz.f37 := ⟨Tryz.func37, by kernel_rfl⟩
theorem ok38 : FOk 38 Tryz.f38 := ⟨Tryz.func38, by kernel_rfl⟩
theorem ok39 : FOk 39 Tryz.f39 := ⟨Tryz.func39, by kernel_rfl⟩
theorem ok40 : FOk 40 Tryz.f40 := ⟨Tryz.func40, by kernel_rfl⟩
theorem ok41 : FOk 41 Tryz.f41 := ⟨Tryz.func41, by kernel_rfl⟩
theorem ok42 : FOk 42 Tryz.f42 := ⟨Tryz.func42, by kernel_rfl⟩
theorem ok43 : FOk 43 Tryz.f43 := ⟨Tryz.func43, by kernel_rfl⟩
theorem ok44 : FOk 44 Tryz.f44 := ⟨Tryz.func44, by kernel_rfl⟩
theorem ok45 : FOk 45 Tryz.f45 := ⟨Tryz.func45, by kernel_rfl⟩
theorem ok46 : FOk 46 Tryz.f46 := ⟨Tryz.func46, by kernel_rfl⟩
theorem ok47 : FOk 47 Tryz.f47 := ⟨Tryz.func47, by kernel_rfl⟩
theorem ok48 : FOk 48 Tryz.f48 := ⟨Tryz.func48, by kernel_rfl⟩
theorem ok49 : FOk 49 Tryz.f49 := ⟨Tryz.func49, by kernel_rfl⟩
theorem ok50 : FOk 50 Tryz.f50 := ⟨Tryz.func50, by kernel_rfl⟩
theorem ok51 : FOk 51 Tryz.f51 := ⟨Tryz.func51, by kernel_rfl⟩
theorem ok52 : FOk 52 Tryz.f52 := ⟨Tryz.func52, by kernel_rfl⟩
theorem ok53 : FOk 53 Tryz.f53 := ⟨Tryz.func53, by kernel_rfl⟩
theorem ok54 : FOk 54 Tryz.f54 := ⟨Tryz.func54, by kernel_rfl⟩
theorem ok55 : FOk 55 Tryz.f55 := ⟨Tryz.func55, by kernel_rfl⟩
theorem ok56 : FOk 56 Tryz.f56 := ⟨Tryz.func56, by kernel_rfl⟩
theorem ok57 : FOk 57 Tryz.f57 := ⟨Tryz.func57, by kernel_rfl⟩
theorem ok58 : FOk 58 Tryz.f58 := ⟨Tryz.func58, by kernel_rfl⟩
theorem ok59 : FOk 59 Tryz.f59 := ⟨Tryz.func59, by kernel_rfl⟩
theorem ok60 : FOk 60 Tryz.f60 := ⟨Tryz.func60, by kernel_rfl⟩
theorem ok61 : FOk 61 Tryz.f61 := ⟨Tryz.func61, by kernel_rfl⟩
theorem ok62 : FOk 62 Tryz.f62 := ⟨Tryz.func62, by kernel_rfl⟩
theorem ok63 : FOk 63 Tryz.f63 := ⟨Tryz.func63, by kernel_rfl⟩
theorem ok64 : FOk 64 Tryz.f64 := ⟨Tryz.func64, by kernel_rfl⟩
theorem ok65 : FOk 65 Tryz.f65 := ⟨Tryz.func65, by kernel_rfl⟩
theorem ok66 : FOk 66 Tryz.f66 := ⟨Tryz.func66, by kernel_rfl⟩
theorem ok67 : FOk 67 Tryz.f67 := ⟨Tryz.func67, by kernel_rfl⟩
theorem ok68 : FOk 68 Tryz.f68 := ⟨Tryz.func68, by kernel_rfl⟩
theorem ok69 : FOk 69 Tryz.f69 := ⟨Tryz.func69, by kernel_rfl⟩
theorem ok70 : FOk 70 Tryz.f70 := ⟨Tryz.func70, by kernel_rfl⟩
theorem ok71 : FOk 71 Tryz.f71 := ⟨Tryz.func71, by kernel_rfl⟩
theorem ok72 : FOk 72 Tryz.f72 := ⟨Tryz.func72, by kernel_rfl⟩
theorem ok73 : FOk 73 Tryz.f73 := ⟨Tryz.func73, by kernel_rfl⟩
theorem ok74 : FOk 74 Tryz.f74 := ⟨Tryz.func74, by kernel_rfl⟩
theorem ok75 : FOk 75 Tryz.f75 := ⟨Tryz.func75, by kernel_rfl⟩
theorem ok76 : FOk 76 Tryz.f76 := ⟨Tryz.func76, by kernel_rfl⟩
theorem ok77 : FOk 77 Tryz.f77 := ⟨Tryz.func77, by kernel_rfl⟩
theorem ok78 : FOk 78 Tryz.f78 := ⟨Tryz.func78, by kernel_rfl⟩
theorem ok79 : FOk 79 Tryz.f79 := ⟨Tryz.func79, by kernel_rfl⟩
theorem ok80 : FOk 80 Tryz.f80 := ⟨Tryz.func80, by kernel_rfl⟩
theorem ok81 : FOk 81 Tryz.f81 := ⟨Tryz.func81, by kernel_rfl⟩
theorem ok82 : FOk 82 Tryz.f82 := ⟨Tryz.func82, by kernel_rfl⟩
theorem ok83 : FOk 83 Tryz.f83 := ⟨Tryz.func83, by kernel_rfl⟩
theorem ok84 : FOk 84 Tryz.f84 := ⟨Tryz.func84, by kernel_rfl⟩
theorem ok85 : FOk 85 Tryz.f85 := ⟨Tryz.func85, by kernel_rfl⟩
theorem ok86 : FOk 86 Tryz.f86 := ⟨Tryz.func86, by kernel_rfl⟩
theorem ok87 : FOk 87 Tryz.f87 := ⟨Tryz.func87, by kernel_rfl⟩
theorem ok88 : FOk 88 Tryz.f88 := ⟨Tryz.func88, by kernel_rfl⟩
theorem ok89 : FOk 89 Tryz.f89 := ⟨Tryz.func89, by kernel_rfl⟩
theorem ok90 : FOk 90 Tryz.f90 := ⟨Tryz.func90, by kernel_rfl⟩
theorem ok91 : FOk 91 Tryz.f91 := ⟨Tryz.func91, by kernel_rfl⟩
theorem ok92 : FOk 92 Tryz.f92 := ⟨Tryz.func92, by kernel_rfl⟩
theorem ok93 : FOk 93 Tryz.f93 := ⟨Tryz.func93, by kernel_rfl⟩
theorem ok94 : FOk 94 Tryz.f94 := ⟨Tryz.func94, by kernel_rfl⟩
theorem ok95 : FOk 95 Tryz.f95 := ⟨Tryz.func95, by kernel_rfl⟩
theorem ok96 : FOk 96 Tryz.f96 := ⟨Tryz.func96, by kernel_rfl⟩
theorem ok97 : FOk 97 Tryz.f97 := ⟨Tryz.func97, by kernel_rfl⟩
theorem ok98 : FOk 98 Tryz.f98 := ⟨Tryz.func98, by kernel_rfl⟩
theorem ok99 : FOk 99 Tryz.f99 := ⟨Tryz.func99, by kernel_rfl⟩
theorem ok100 : FOk 100 Tryz.f100 := ⟨Tryz.func100, by kernel_rfl⟩
theorem ok101 : FOk 101 Tryz.f101 := ⟨Tryz.func101, by kernel_rfl⟩
theorem ok102 : FOk 102 Tryz.f102 := ⟨Tryz.func102, by kernel_rfl⟩
theorem ok103 : FOk 103 Tryz.f103 := ⟨Tryz.func103, by kernel_rfl⟩
theorem ok104 : FOk 104 Tryz.f104 := ⟨Tryz.func104, by kernel_rfl⟩
theorem ok105 : FOk 105 Tryz.f105 := ⟨Tryz.func105, by kernel_rfl⟩
theorem ok106 : FOk 106 Tryz.f106 := ⟨Tryz.func106, by kernel_rfl⟩
theorem ok107 : FOk 107 Tryz.f107 := ⟨Tryz.func107, by kernel_rfl⟩
theorem ok108 : FOk 108 Tryz.f108 := ⟨Tryz.func108, by kernel_rfl⟩
theorem ok109 : FOk 109 Tryz.f109 := ⟨Tryz.func109, by kernel_rfl⟩
theorem ok110 : FOk 110 Tryz.f110 := ⟨Tryz.func110, by kernel_rfl⟩
theorem ok111 : FOk 111 Tryz.f111 := ⟨Tryz.func111, by kernel_rfl⟩
theorem ok112 : FOk 112 Tryz.f112 := ⟨Tryz.func112, by kernel_rfl⟩
theorem ok113 : FOk 113 Tryz.f113 := ⟨Tryz.func113, by kernel_rfl⟩
theorem ok114 : FOk 114 Tryz.f114 := ⟨Tryz.func114, by kernel_rfl⟩
theorem ok115 : FOk 115 Tryz.f115 := ⟨Tryz.func115, by kernel_rfl⟩
theorem ok116 : FOk 116 Tryz.f116 := ⟨Tryz.func116, by kernel_rfl⟩
theorem ok117 : FOk 117 Tryz.f117 := ⟨Tryz.func117, by kernel_rfl⟩
theorem ok118 : FOk 118 Tryz.f118 := ⟨Tryz.func118, by kernel_rfl⟩
theorem ok120 : FOk 120 Tryz.f120 := ⟨Tryz.func120, by kernel_rfl⟩
theorem ok121 : FOk 121 Tryz.f121 := ⟨Tryz.func121, by kernel_rfl⟩
theorem ok122 : FOk 122 Tryz.f122 := ⟨Tryz.func122, by kernel_rfl⟩
theorem ok123 : FOk 123 Tryz.f123 := ⟨Tryz.func123, by kernel_rfl⟩
theorem ok124 : FOk 124 Tryz.f124 := ⟨Tryz.func124, by kernel_rfl⟩
theorem ok125 : FOk 125 Tryz.f125 := ⟨Tryz.func125, by kernel_rfl⟩
theorem ok126 : FOk 126 Tryz.f126 := ⟨Tryz.func126, by kernel_rfl⟩
theorem ok127 : FOk 127 Tryz.f127 := ⟨Tryz.func127, by kernel_rfl⟩
theorem ok128 : FOk 128 Tryz.f128 := ⟨Tryz.func128, by kernel_rfl⟩
theorem ok129 : FOk 129 Tryz.f129 := ⟨Tryz.func129, by kernel_rfl⟩
theorem ok130 : FOk 130 Tryz.f130 := ⟨Tryz.func130, by kernel_rfl⟩
theorem ok131 : FOk 131 Tryz.f131 := ⟨Tryz.func131, by kernel_rfl⟩
theorem ok132 : FOk 132 Tryz.f132 := ⟨Tryz.func132, by kernel_rfl⟩
theorem ok133 : FOk 133 Tryz.f133 := ⟨Tryz.func133, by kernel_rfl⟩
theorem ok134 : FOk 134 Tryz.f134 := ⟨Tryz.func134, by kernel_rfl⟩
theorem ok135 : FOk 135 Tryz.f135 := ⟨Tryz.func135, by kernel_rfl⟩
theorem ok136 : FOk 136 Tryz.f136 := ⟨Tryz.func136, by kernel_rfl⟩
theorem ok137 : FOk 137 Tryz.f137 := ⟨Tryz.func137, by kernel_rfl⟩
theorem ok138 : FOk 138 Tryz.f138 := ⟨Tryz.func138, by kernel_rfl⟩
theorem ok139 : FOk 139 Tryz.f139 := ⟨Tryz.func139, by kernel_rfl⟩
theorem ok140 : FOk 140 Tryz.f140 := ⟨Tryz.func140, by kernel_rfl⟩
theorem ok141 : FOk 141 Tryz.f141 := ⟨Tryz.func141, by kernel_rfl⟩
theorem ok142 : FOk 142 Tryz.f142 := ⟨Tryz.func142, by kernel_rfl⟩
theorem ok143 : FOk 143 Tryz.f143 := ⟨Tryz.func143, by kernel_rfl⟩
theorem ok144 : FOk 144 Tryz.f144 := ⟨Tryz.func144, by kernel_rfl⟩
theorem ok145 : FOk 145 Tryz.f145 := ⟨Tryz.func145, by kernel_rfl⟩
theorem ok146 : FOk 146 Tryz.f146 := ⟨Tryz.func146, by kernel_rfl⟩
theorem ok147 : FOk 147 Tryz.f147 := ⟨Tryz.func147, by kernel_rfl⟩
theorem ok148 : FOk 148 Tryz.f148 := ⟨Tryz.func148, by kernel_rfl⟩
theorem ok149 : FOk 149 Tryz.f149 := ⟨Tryz.func149, by kernel_rfl⟩
theorem ok150 : FOk 150 Tryz.f150 := ⟨Tryz.func150, by kernel_rfl⟩
theorem ok151 : FOk 151 Tryz.f151 := ⟨Tryz.func151, by kernel_rfl⟩
theorem ok152 : FOk 152 Tryz.f152 := ⟨Tryz.func152, by kernel_rfl⟩
theorem ok153 : FOk 153 Tryz.f153 := ⟨Tryz.func153, by kernel_rfl⟩
theorem ok154 : FOk 154 Tryz.f154 := ⟨Tryz.func154, by kernel_rfl⟩
theorem ok155 : FOk 155 Tryz.f155 := ⟨Tryz.func155, by kernel_rfl⟩
theorem ok156 : FOk 156 Tryz.f156 := ⟨Tryz.func156, by kernel_rfl⟩
theorem ok157 : FOk 157 Tryz.f157 := ⟨Tryz.func157, by kernel_rfl⟩
theorem ok158 : FOk 158 Tryz.f158 := ⟨Tryz.func158, by kernel_rfl⟩
theorem ok159 : FOk 159 Tryz.f159 := ⟨Tryz.func159, by kernel_rfl⟩
theorem ok160 : FOk 160 Tryz.f160 := ⟨Tryz.func160, by kernel_rfl⟩
theorem ok161 : FOk 161 Tryz.f161 := ⟨Tryz.func161, by kernel_rfl⟩
theorem ok162 : FOk 162 Tryz.f162 := ⟨Tryz.func162, by kernel_rfl⟩
theorem ok163 : FOk 163 Tryz.f163 := ⟨Tryz.func163, by kernel_rfl⟩
theorem ok164 : FOk 164 Tryz.f164 := ⟨Tryz.func164, by kernel_rfl⟩
theorem ok165 : FOk 165 Tryz.f165 := ⟨Tryz.func165, by kernel_rfl⟩
theorem ok166 : FOk 166 Tryz.f166 := ⟨Tryz.func166, by kernel_rfl⟩
theorem ok167 : FOk 167 Tryz.f167 := ⟨Tryz.func167, by kernel_rfl⟩
theorem ok168 : FOk 168 Tryz.f168 := ⟨Tryz.func168, by kernel_rfl⟩
theorem ok169 : FOk 169 Tryz.f169 := ⟨Tryz.func169, by kernel_rfl⟩
theorem ok170 : FOk 170 Tryz.f170 := ⟨Tryz.func170, by kernel_rfl⟩
theorem ok171 : FOk 171 Tryz.f171 := ⟨Tryz.func171, by kernel_rfl⟩
theorem ok172 : FOk 172 Tryz.f172 := ⟨Tryz.func172, by kernel_rfl⟩
theorem ok173 : FOk 173 Tryz.f173 := ⟨Tryz.func173, by kernel_rfl⟩
theorem ok174 : FOk 174 Tryz.f174 := ⟨Tryz.func174, by kernel_rfl⟩
theorem ok175 : FOk 175 Tryz.f175 := ⟨Tryz.func175, by kernel_rfl⟩
theorem ok176 : FOk 176 Tryz.f176 := ⟨Tryz.func176, by kernel_rfl⟩
theorem ok177 : FOk 177 Tryz.f177 := ⟨Tryz.func177, by kernel_rfl⟩
theorem ok178 : FOk 178 Tryz.f178 := ⟨Tryz.func178, by kernel_rfl⟩
theorem ok179 : FOk 179 Tryz.f179 := ⟨Tryz.func179, by kernel_rfl⟩
theorem ok180 : FOk 180 Tryz.f180 := ⟨Tryz.func180, by kernel_rfl⟩
theorem ok181 : FOk 181 Tryz.f181 := ⟨Tryz.func181, by kernel_rfl⟩
theorem ok182 : FOk 182 Tryz.f182 := ⟨Tryz.func182, by kernel_rfl⟩
theorem ok183 : FOk 183 Tryz.f183 := ⟨Tryz.func183, by kernel_rfl⟩
theorem ok184 : FOk 184 Tryz.f184 := ⟨Tryz.func184, by kernel_rfl⟩
theorem ok185 : FOk 185 Tryz.f185 := ⟨Tryz.func185, by kernel_rfl⟩
theorem ok186 : FOk 186 Tryz.f186 := ⟨Tryz.func186, by kernel_rfl⟩
theorem ok187 : FOk 187 Tryz.f187 := ⟨Tryz.func187, by kernel_rfl⟩
theorem ok188 : FOk 188 Tryz.f188 := ⟨Tryz.func188, by kernel_rfl⟩
theorem ok189 : FOk 189 Tryz.f189 := ⟨Tryz.func189, by kernel_rfl⟩
theorem ok190 : FOk 190 Tryz.f190 := ⟨Tryz.func190, by kernel_rfl⟩
theorem ok191 : FOk 191 Tryz.f191 := ⟨Tryz.func191, by kernel_rfl⟩
theorem ok192 : FOk 192 Tryz.f192 := ⟨Tryz.func192, by kernel_rfl⟩
theorem ok193 : FOk 193 Tryz.f193 := ⟨Tryz.func193, by kernel_rfl⟩
theorem ok194 : FOk 194 Tryz.f194 := ⟨Tryz.func194, by kernel_rfl⟩
theorem ok195 : FOk 195 Tryz.f195 := ⟨Tryz.func195, by kernel_rfl⟩
theorem ok196 : FOk 196 Tryz.f196 := ⟨Tryz.func196, by kernel_rfl⟩
theorem ok197 : FOk 197 Tryz.f197 := ⟨Tryz.func197, by kernel_rfl⟩
theorem ok198 : FOk 198 Tryz.f198 := ⟨Tryz.func198, by kernel_rfl⟩
theorem ok199 : FOk 199 Tryz.f199 := ⟨Tryz.func199, by kernel_rfl⟩
theorem ok200 : FOk 200 Tryz.f200 := ⟨Tryz.func200, by kernel_rfl⟩
theorem ok201 : FOk 201 Tryz.f201 := ⟨Tryz.func201, by kernel_rfl⟩
theorem ok202 : FOk 202 Tryz.f202 := ⟨Tryz.func202, by kernel_rfl⟩
theorem ok203 : FOk 203 Tryz.f203 := ⟨Tryz.func203, by kernel_rfl⟩
theorem ok204 : FOk 204 Tryz.f204 := ⟨Tryz.func204, by kernel_rfl⟩
theorem ok205 : FOk 205 Tryz.f205 := ⟨Tryz.func205, by kernel_rfl⟩
theorem ok206 : FOk 206 Tryz.f206 := ⟨Tryz.func206, by kernel_rfl⟩
theorem ok207 : FOk 207 Tryz.f207 := ⟨Tryz.func207, by kernel_rfl⟩
theorem ok208 : FOk 208 Tryz.f208 := ⟨Tryz.func208, by kernel_rfl⟩
theorem ok209 : FOk 209 Tryz.f209 := ⟨Tryz.func209, by kernel_rfl⟩
theorem ok210 : FOk 210 Tryz.f210 := ⟨Tryz.func210, by kernel_rfl⟩
theorem ok211 : FOk 211 Tryz.f211 := ⟨Tryz.func211, by kernel_rfl⟩
theorem ok212 : FOk 212 Tryz.f212 := ⟨Tryz.func212, by kernel_rfl⟩
theorem ok213 : FOk 213 Tryz.f213 := ⟨Tryz.func213, by kernel_rfl⟩
theorem ok214 : FOk 214 Tryz.f214 := ⟨Tryz.func214, by kernel_rfl⟩
theorem ok215 : FOk 215 Tryz.f215 := ⟨Tryz.func215, by kernel_rfl⟩
theorem ok216 : FOk 216 Tryz.f216 := ⟨Tryz.func216, by kernel_rfl⟩
theorem ok217 : FOk 217 Tryz.f217 := ⟨Tryz.func217, by kernel_rfl⟩
theorem ok218 : FOk 218 Tryz.f218 := ⟨Tryz.func218, by kernel_rfl⟩
theorem ok219 : FOk 219 Tryz.f219 := ⟨Tryz.func219, by kernel_rfl⟩
theorem ok220 : FOk 220 Tryz.f220 := ⟨Tryz.func220, by kernel_rfl⟩
theorem ok221 : FOk 221 Tryz.f221 := ⟨Tryz.func221, by kernel_rfl⟩
theorem ok222 : FOk 222 Tryz.f222 := ⟨Tryz.func222, by kernel_rfl⟩
theorem ok223 : FOk 223 Tryz.f223 := ⟨Tryz.func223, by kernel_rfl⟩
theorem ok224 : FOk 224 Tryz.f224 := ⟨Tryz.func224, by kernel_rfl⟩
theorem ok225 : FOk 225 Tryz.f225 := ⟨Tryz.func225, by kernel_rfl⟩
theorem ok226 : FOk 226 Tryz.f226 := ⟨Tryz.func226, by kernel_rfl⟩
theorem ok227 : FOk 227 Tryz.f227 := ⟨Tryz.func227, by kernel_rfl⟩
theorem ok228 : FOk 228 Tryz.f228 := ⟨Tryz.func228, by kernel_rfl⟩
theorem ok246 : FOk 246 Tryz.f246 := ⟨Tryz.func246, by kernel_rfl⟩
theorem ok247 : FOk 247 Tryz.f247 := ⟨Tryz.func247, by kernel_rfl⟩
theorem ok248 : FOk 248 Tryz.f248 := ⟨Tryz.func248, by kernel_rfl⟩
theorem ok249 : FOk 249 Tryz.f249 := ⟨Tryz.func249, by kernel_rfl⟩
theorem ok250 : FOk 250 Tryz.f250 := ⟨Tryz.func250, by kernel_rfl⟩
theorem ok251 : FOk 251 Tryz.f251 := ⟨Tryz.func251, by kernel_rfl⟩
noncomputable def ftree : Tr Func := (.node (.node (.node (.node (.node (.node (.node (.node .nil (some Tryz.f127) .nil) (some Tryz.f63) (.node .nil (some Tryz.f191) .nil)) (some Tryz.f31) (.node (.node .nil (some Tryz.f159) .nil) (some Tryz.f95) (.node .nil (some Tryz.f223) .nil))) (some Tryz.f15) (.node (.node (.node .nil (some Tryz.f143) .nil) (some Tryz.f79) (.node .nil (some Tryz.f207) .nil)) (some Tryz.f47) (.node (.node .nil (some Tryz.f175) .nil) (some Tryz.f111) .nil))) (some Tryz.f7) (.node (.node (.node (.node .nil (some Tryz.f135) .nil) (some Tryz.f71) (.node .nil (some Tryz.f199) .nil)) (some Tryz.f39) (.node (.node .nil (some Tryz.f167) .nil) (some Tryz.f103) .nil)) (some Tryz.f23) (.node (.node (.node .nil (some Tryz.f151) .nil) (some Tryz.f87) (.node .nil (some Tryz.f215) .nil)) (some Tryz.f55) (.node (.node .nil (some Tryz.f183) .nil) none (.node .nil (some Tryz.f247) .nil))))) (some Tryz.f3) (.node (.node (.node (.node (.node .nil (some Tryz.f131) .nil) (some Tryz.f67) (.node .nil (some Tryz.f195) .nil)) (some Tryz.f35) (.node (.node .nil (some Tryz.f163) .nil) (some Tryz.f99) (.node .nil (some Tryz.f227) .nil))) (some Tryz.f19) (.node (.node (.node .nil (some Tryz.f147) .nil) (some Tryz.f83) (.node .nil (some Tryz.f211) .nil)) (some Tryz.f51) (.node (.node .nil (some Tryz.f179) .nil) (some Tryz.f115) .nil))) (some Tryz.f11) (.node (.node (.node (.node .nil (some Tryz.f139) .nil) (some Tryz.f75) (.node .nil (some Tryz.f203) .nil)) (some Tryz.f43) (.node (.node .nil (some Tryz.f171) .nil) (some Tryz.f107) .nil)) (some Tryz.f27) (.node (.node (.node .nil (some Tryz.f155) .nil) (some Tryz.f91) (.node .nil (some Tryz.f219) .nil)) (some Tryz.f59) (.node (.node .nil (some Tryz.f187) .nil) (some Tryz.f123) (.node .nil (some Tryz.f251) .nil)))))) none (.node (.node (.node (.node (.node (.node .nil (some Tryz.f129) .nil) (some Tryz.f65) (.node .nil (some Tryz.f193) .nil)) (some Tryz.f33) (.node (.node .nil (some Tryz.f161) .nil) (some Tryz.f97) (.node .nil (some Tryz.f225) .nil))) (some Tryz.f17) (.node (.node (.node .nil (some Tryz.f145) .nil) (some Tryz.f81) (.node .nil (some Tryz.f209) .nil)) (some Tryz.f49) (.node (.node .nil (some Tryz.f177) .nil) (some Tryz.f113) .nil))) (some Tryz.f9) (.node (.node (.node (.node .nil (some Tryz.f137) .nil) (some Tryz.f73) (.node .nil (some Tryz.f201) .nil)) (some Tryz.f41) (.node (.node .nil (some Tryz.f169) .nil) (some Tryz.f105) .nil)) (some Tryz.f25) (.node (.node (.node .nil (some Tryz.f153) .nil) (some Tryz.f89) (.node .nil (some Tryz.f217) .nil)) (some Tryz.f57) (.node (.node .nil (some Tryz.f185) .nil) (some Tryz.f121) (.node .nil (some Tryz.f249) .nil))))) (some Tryz.f5) (.node (.node (.node (.node (.node .nil (some Tryz.f133) .nil) (some Tryz.f69) (.node .nil (some Tryz.f197) .nil)) (some Tryz.f37) (.node (.node .nil (some Tryz.f165) .nil) (some Tryz.f101) .nil)) (some Tryz.f21) (.node (.node (.node .nil (some Tryz.f149) .nil) (some Tryz.f85) (.node .nil (some Tryz.f213) .nil)) (some Tryz.f53) (.node (.node .nil (some Tryz.f181) .nil) (some Tryz.f117) .nil))) (some Tryz.f13) (.node (.node (.node (.node .nil (some Tryz.f141) .nil) (some Tryz.f77) (.node .nil (some Tryz.f205) .nil)) (some Tryz.f45) (.node (.node .nil (some Tryz.f173) .nil) (some Tryz.f109) .nil)) (some Tryz.f29) (.node (.node (.node .nil (some Tryz.f157) .nil) (some Tryz.f93) (.node .nil (some Tryz.f221) .nil)) (some Tryz.f61) (.node (.node .nil (some Tryz.f189) .nil) (some Tryz.f125) .nil)))))) none (.node (.node (.node (.node (.node (.node (.node .nil (some Tryz.f128) .nil) (some Tryz.f64) (.node .nil (some Tryz.f192) .nil)) (some Tryz.f32) (.node (.node .nil (some Tryz.f160) .nil) (some Tryz.f96) (.node .nil (some Tryz.f224) .nil))) (some Tryz.f16) (.node (.node (.node .nil (some Tryz.f144) .nil) (some Tryz.f80) (.node .nil (some Tryz.f208) .nil)) (some Tryz.f48) (.node (.node .nil (some Tryz.f176) .nil) (some Tryz.f112) .nil))) (some Tryz.f8) (.node (.node (.node (.node .nil (some Tryz.f136) .nil) (some Tryz.f72) (.node .nil (some Tryz.f200) .nil)) (some Tryz.f40) (.node (.node .nil (some Tryz.f168) .nil) (some Tryz.f104) .nil)) (some Tryz.f24) (.node (.node (.node .nil (some Tryz.f152) .nil) (some Tryz.f88) (.node .nil (some Tryz.f216) .nil)) (some Tryz.f56) (.node (.node .nil (some Tryz.f184) .nil) (some Tryz.f120) (.node .nil (some Tryz.f248) .nil))))) (some Tryz.f4) (.node (.node (.node (.node (.node .nil (some Tryz.f132) .nil) (some Tryz.f68) (.node .nil (some Tryz.f196) .nil)) (some Tryz.f36) (.node (.node .nil (some Tryz.f164) .nil) (some Tryz.f100) (.node .nil (some Tryz.f228) .nil))) (some Tryz.f20) (.node (.node (.node .nil (some Tryz.f148) .nil) (some Tryz.f84) (.node .nil (some Tryz.f212) .nil)) (some Tryz.f52) (.node (.node .nil (some Tryz.f180) .nil) (some Tryz.f116) .nil))) (some Tryz.f12) (.node (.node (.node (.node .nil (some Tryz.f140) .nil) (some Tryz.f76) (.node .nil (some Tryz.f204) .nil)) (some Tryz.f44) (.node (.node .nil (some Tryz.f172) .nil) (some Tryz.f108) .nil)) (some Tryz.f28) (.node (.node (.node .nil (some Tryz.f156) .nil) (some Tryz.f92) (.node .nil (some Tryz.f220) .nil)) (some Tryz.f60) (.node (.node .nil (some Tryz.f188) .nil) (some Tryz.f124) .nil))))) (some Tryz.f2) (.node (.node (.node (.node (.node (.node .nil (some Tryz.f130) .nil) (some Tryz.f66) (.node .nil (some Tryz.f194) .nil)) (some Tryz.f34) (.node (.node .nil (some Tryz.f162) .nil) (some Tryz.f98) (.node .nil (some Tryz.f226) .nil))) (some Tryz.f18) (.node (.node (.node .nil (some Tryz.f146) .nil) (some Tryz.f82) (.node .nil (some Tryz.f210) .nil)) (some Tryz.f50) (.node (.node .nil (some Tryz.f178) .nil) (some Tryz.f114) .nil))) (some Tryz.f10) (.node (.node (.node (.node .nil (some Tryz.f138) .nil) (some Tryz.f74) (.node .nil (some Tryz.f202) .nil)) (some Tryz.f42) (.node (.node .nil (some Tryz.f170) .nil) (some Tryz.f106) .nil)) (some Tryz.f26) (.node (.node (.node .nil (some Tryz.f154) .nil) (some Tryz.f90) (.node .nil (some Tryz.f218) .nil)) (some Tryz.f58) (.node (.node .nil (some Tryz.f186) .nil) (some Tryz.f122) (.node .nil (some Tryz.f250) .nil))))) (some Tryz.f6) (.node (.node (.node (.node (.node .nil (some Tryz.f134) .nil) (some Tryz.f70) (.node .nil (some Tryz.f198) .nil)) (some Tryz.f38) (.node (.node .nil (some Tryz.f166) .nil) (some Tryz.f102) .nil)) (some Tryz.f22) (.node (.node (.node .nil (some Tryz.f150) .nil) (some Tryz.f86) (.node .nil (some Tryz.f214) .nil)) (some Tryz.f54) (.node (.node .nil (some Tryz.f182) .nil) (some Tryz.f118) (.node .nil (some Tryz.f246) .nil)))) (some Tryz.f14) (.node (.node (.node (.node .nil (some Tryz.f142) .nil) (some Tryz.f78) (.node .nil (some Tryz.f206) .nil)) (some Tryz.f46) (.node (.node .nil (some Tryz.f174) .nil) (some Tryz.f110) .nil)) (some Tryz.f30) (.node (.node (.node .nil (some Tryz.f158) .nil) (some Tryz.f94) (.node .nil (some Tryz.f222) .nil)) (some Tryz.f62) (.node (.node .nil (some Tryz.f190) .nil) (some Tryz.f126) .nil)))))))
theorem ftree_ok : Tr.All FOk ftree := ⟨⟨⟨⟨⟨⟨⟨⟨trivial, ok127, trivial⟩, ok63, ⟨trivial, ok191, trivial⟩⟩, ok31, ⟨⟨trivial, ok159, trivial⟩, ok95, ⟨trivial, ok223, trivial⟩⟩⟩, ok15, ⟨⟨⟨trivial, ok143, trivial⟩, ok79, ⟨trivial, ok207, trivial⟩⟩, ok47, ⟨⟨trivial, ok175, trivial⟩, ok111, trivial⟩⟩⟩, ok7, ⟨⟨⟨⟨trivial, ok135, trivial⟩, ok71, ⟨trivial, ok199, trivial⟩⟩, ok39, ⟨⟨trivial, ok167, trivial⟩, ok103, trivial⟩⟩, ok23, ⟨⟨⟨trivial, ok151, trivial⟩, ok87, ⟨trivial, ok215, trivial⟩⟩, ok55, ⟨⟨trivial, ok183, trivial⟩, trivial, ⟨trivial, ok247, trivial⟩⟩⟩⟩⟩, ok3, ⟨⟨⟨⟨⟨trivial, ok131, trivial⟩, ok67, ⟨trivial, ok195, trivial⟩⟩, ok35, ⟨⟨trivial, ok163, trivial⟩, ok99, ⟨trivial, ok227, trivial⟩⟩⟩, ok19, ⟨⟨⟨trivial, ok147, trivial⟩, ok83, ⟨trivial, ok211, trivial⟩⟩, ok51, ⟨⟨trivial, ok179, trivial⟩, ok115, trivial⟩⟩⟩, ok11, ⟨⟨⟨⟨trivial, ok139, trivial⟩, ok75, ⟨trivial, ok203, trivial⟩⟩, ok43, ⟨⟨trivial, ok171, trivial⟩, ok107, trivial⟩⟩, ok27, ⟨⟨⟨trivial, ok155, trivial⟩, ok91, ⟨trivial, ok219, trivial⟩⟩, ok59, ⟨⟨trivial, ok187, trivial⟩, ok123, ⟨trivial, ok251, trivial⟩⟩⟩⟩⟩⟩, trivial, ⟨⟨⟨⟨⟨⟨trivial, ok129, trivial⟩, ok65, ⟨trivial, ok193, trivial⟩⟩, ok33, ⟨⟨trivial, ok161, trivial⟩, ok97, ⟨trivial, ok225, trivial⟩⟩⟩, ok17, ⟨⟨⟨trivial, ok145, trivial⟩, ok81, ⟨trivial, ok209, trivial⟩⟩, ok49, ⟨⟨trivial, ok177, trivial⟩, ok113, trivial⟩⟩⟩, ok9, ⟨⟨⟨⟨trivial, ok137, trivial⟩, ok73, ⟨trivial, ok201, trivial⟩⟩, ok41, ⟨⟨trivial, ok169, trivial⟩, ok105, trivial⟩⟩, ok25, ⟨⟨⟨trivial, ok153, trivial⟩, ok89, ⟨trivial, ok217, trivial⟩⟩, ok57, ⟨⟨trivial, ok185, trivial⟩, ok121, ⟨trivial, ok249, trivial⟩⟩⟩⟩⟩, ok5, ⟨⟨⟨⟨⟨trivial, ok133, trivial⟩, ok69, ⟨trivial, ok197, trivial⟩⟩, ok37, ⟨⟨trivial, ok165, trivial⟩, ok101, trivial⟩⟩, ok21, ⟨⟨⟨trivial, ok149, trivial⟩, ok85, ⟨trivial, ok213, trivial⟩⟩, ok53, ⟨⟨trivial, ok181, trivial⟩, ok117, trivial⟩⟩⟩, ok13, ⟨⟨⟨⟨trivial, ok141, trivial⟩, ok77, ⟨trivial, ok205, trivial⟩⟩, ok45, ⟨⟨trivial, ok173, trivial⟩, ok109, trivial⟩⟩, ok29, ⟨⟨⟨trivial, ok157, trivial⟩, ok93, ⟨trivial, ok221, trivial⟩⟩, ok61, ⟨⟨trivial, ok189, trivial⟩, ok125, trivial⟩⟩⟩⟩⟩⟩, trivial, ⟨⟨⟨⟨⟨⟨⟨trivial, ok128, trivial⟩, ok64, ⟨trivial, ok192, trivial⟩⟩, ok32, ⟨⟨trivial, ok160, trivial⟩, ok96, ⟨trivial, ok224, trivial⟩⟩⟩, ok16, ⟨⟨⟨trivial, ok144, trivial⟩, ok80, ⟨trivial, ok208, trivial⟩⟩, ok48, ⟨⟨trivial, ok176, trivial⟩, ok112, trivial⟩⟩⟩, ok8, ⟨⟨⟨⟨trivial, ok136, trivial⟩, ok72, ⟨trivial, ok200, trivial⟩⟩, ok40, ⟨⟨trivial, ok168, trivial⟩, ok104, trivial⟩⟩, ok24, ⟨⟨⟨trivial, ok152, trivial⟩, ok88, ⟨trivial, ok216, trivial⟩⟩, ok56, ⟨⟨trivial, ok184, trivial⟩, ok120, ⟨trivial, ok248, trivial⟩⟩⟩⟩⟩, ok4, ⟨⟨⟨⟨⟨trivial, ok132, trivial⟩, ok68, ⟨trivial, ok196, trivial⟩⟩, ok36, ⟨⟨trivial, ok164, trivial⟩, ok100, ⟨trivial, ok228, trivial⟩⟩⟩, ok20, ⟨⟨⟨trivial, ok148, trivial⟩, ok84, ⟨trivial, ok212, trivial⟩⟩, ok52, ⟨⟨trivial, ok180, trivial⟩, ok116, trivial⟩⟩⟩, ok12, ⟨⟨⟨⟨trivial, ok140, trivial⟩, ok76, ⟨trivial, ok204, trivial⟩⟩, ok44, ⟨⟨trivial, ok172, trivial⟩, ok108, trivial⟩⟩, ok28, ⟨⟨⟨trivial, ok156, trivial⟩, ok92, ⟨trivial, ok220, trivial⟩⟩, ok60, ⟨⟨trivial, ok188, trivial⟩, ok124, trivial⟩⟩⟩⟩⟩, ok2, ⟨⟨⟨⟨⟨⟨trivial, ok130, trivial⟩, ok66, ⟨trivial, ok194, trivial⟩⟩, ok34, ⟨⟨trivial, ok162, trivial⟩, ok98, ⟨trivial, ok226, trivial⟩⟩⟩, ok18, ⟨⟨⟨trivial, ok146, trivial⟩, ok82, ⟨trivial, ok210, trivial⟩⟩, ok50, ⟨⟨trivial, ok178, trivial⟩, ok114, trivial⟩⟩⟩, ok10, ⟨⟨⟨⟨trivial, ok138, trivial⟩, ok74, ⟨trivial, ok202, trivial⟩⟩, ok42, ⟨⟨trivial, ok170, trivial⟩, ok106, trivial⟩⟩, ok26, ⟨⟨⟨trivial, ok154, trivial⟩, ok90, ⟨trivial, ok218, trivial⟩⟩, ok58, ⟨⟨trivial, ok186, trivial⟩, ok122, ⟨trivial, ok250, trivial⟩⟩⟩⟩⟩, ok6, ⟨⟨⟨⟨⟨trivial, ok134, trivial⟩, ok70, ⟨trivial, ok198, trivial⟩⟩, ok38, ⟨⟨trivial, ok166, trivial⟩, ok102, trivial⟩⟩, ok22, ⟨⟨⟨trivial, ok150, trivial⟩, ok86, ⟨trivial, ok214, trivial⟩⟩, ok54, ⟨⟨trivial, ok182, trivial⟩, ok118, ⟨trivial, ok246, trivial⟩⟩⟩⟩, ok14, ⟨⟨⟨⟨trivial, ok142, trivial⟩, ok78, ⟨trivial, ok206, trivial⟩⟩, ok46, ⟨⟨trivial, ok174, trivial⟩, ok110, trivial⟩⟩, ok30, ⟨⟨⟨trivial, ok158, trivial⟩, ok94, ⟨trivial, ok222, trivial⟩⟩, ok62, ⟨⟨trivial, ok190, trivial⟩, ok126, trivial⟩⟩⟩⟩⟩⟩⟩
noncomputable instance instFTab : FTab Pr := ⟨ftree.get, fun k fn h => Tr.All.get ftree FOk ftree_ok k fn h⟩
noncomputable def mfind (t : TypeId) (m : String) : List (TypeId × String × FuncId) → Option FuncId
  | [] => none
  | x :: l => match Nat.beq t x.1, m == x.2.1 with
    | true, true => some x.2.2
    | _, _ => mfind t m l
abbrev MOk (x : TypeId × String × FuncId) : Prop := ∀ v w, (method (Pr.types.size + Made.depth) x.1 v x.2.1).run Pr w = .ok (x.2.2, v) w
def MAll : List (TypeId × String × FuncId) → Prop
  | [] => True
  | x :: l => MOk x ∧ MAll l
theorem mfind_ok (t : TypeId) (m : String) : ∀ (l : List (TypeId × String × FuncId)) (k : FuncId), MAll l → mfind t m l = some k → MOk (t, m, k)
  | [], k, _, h => by cases h
  | x :: l, k, ⟨h1, h2⟩, h => by
    simp only [mfind] at h
    split at h
    · rename_i e1 e2
      cases h
      have e1 := Nat.eq_of_beq_eq_true e1
      have e2 := eq_of_beq e2
      subst e1 e2
      exact h1
    · exact mfind_ok t m l k h2 h
theorem mok0 : MOk (136, "Add", 246) := fun v w => by kernel_rfl
theorem mok1 : MOk (136, "Mul", 247) := fun v w => by kernel_rfl
theorem mok2 : MOk (136, "One", 80) := fun v w => by kernel_rfl
theorem mok3 : MOk (136, "Same", 254) := fun v w => by kernel_rfl
theorem mok4 : MOk (136, "Zero", 129) := fun v w => by kernel_rfl
theorem mok5 : MOk (164, "Add", 248) := fun v w => by kernel_rfl
theorem mok6 : MOk (164, "Mul", 249) := fun v w => by kernel_rfl
theorem mok7 : MOk (164, "One", 250) := fun v w => by kernel_rfl
theorem mok8 : MOk (164, "Same", 255) := fun v w => by kernel_rfl
theorem mok9 : MOk (164, "Zero", 251) := fun v w => by kernel_rfl
def mlist : List (TypeId × String × FuncId) := [(136, "Add", 246), (136, "Mul", 247), (136, "One", 80), (136, "Same", 254), (136, "Zero", 129), (164, "Add", 248), (164, "Mul", 249), (164, "One", 250), (164, "Same", 255), (164, "Zero", 251)]
theorem mlist_ok : MAll mlist := ⟨mok0, ⟨mok1, ⟨mok2, ⟨mok3, ⟨mok4, ⟨mok5, ⟨mok6, ⟨mok7, ⟨mok8, ⟨mok9, trivial⟩⟩⟩⟩⟩⟩⟩⟩⟩⟩
noncomputable instance instMTab : MTab Pr := ⟨fun t m => mfind t m mlist, fun t m k h => mfind_ok t m mlist k mlist_ok h⟩
end Go.Xm
