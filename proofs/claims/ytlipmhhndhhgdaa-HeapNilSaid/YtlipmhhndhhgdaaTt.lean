/- What is known of each type and function of the program. -/
import Derived.Test.YtlipmhhndhhgdaaTb
import Derived.Test.YtlipmhhndhhgdaaProg
import Derived.KernelRfl
set_option linter.unusedSimpArgs false
set_option linter.unusedVariables false
namespace Go.Ab
open Go.Proofs

theorem info0 : Try.prog.info? 0 = some Try.t0 := by kernel_rfl
theorem info1 : Try.prog.info? 1 = some Try.t1 := by kernel_rfl
theorem info2 : Try.prog.info? 2 = some Try.t2 := by kernel_rfl
theorem info3 : Try.prog.info? 3 = some Try.t3 := by kernel_rfl
theorem info4 : Try.prog.info? 4 = some Try.t4 := by kernel_rfl
theorem info5 : Try.prog.info? 5 = some Try.t5 := by kernel_rfl
theorem info6 : Try.prog.info? 6 = some Try.t6 := by kernel_rfl
theorem info7 : Try.prog.info? 7 = some Try.t7 := by kernel_rfl
theorem info8 : Try.prog.info? 8 = some Try.t8 := by kernel_rfl
theorem info9 : Try.prog.info? 9 = some Try.t9 := by kernel_rfl
theorem info10 : Try.prog.info? 10 = some Try.t10 := by kernel_rfl
theorem info11 : Try.prog.info? 11 = some Try.t11 := by kernel_rfl
theorem info12 : Try.prog.info? 12 = some Try.t12 := by kernel_rfl
theorem info13 : Try.prog.info? 13 = some Try.t13 := by kernel_rfl
theorem info14 : Try.prog.info? 14 = some Try.t14 := by kernel_rfl
theorem info15 : Try.prog.info? 15 = some Try.t15 := by kernel_rfl
theorem info16 : Try.prog.info? 16 = some Try.t16 := by kernel_rfl
theorem info17 : Try.prog.info? 17 = some Try.t17 := by kernel_rfl
theorem info18 : Try.prog.info? 18 = some Try.t18 := by kernel_rfl
theorem info19 : Try.prog.info? 19 = some Try.t19 := by kernel_rfl
theorem info20 : Try.prog.info? 20 = some Try.t20 := by kernel_rfl
theorem info21 : Try.prog.info? 21 = some Try.t21 := by kernel_rfl
theorem info22 : Try.prog.info? 22 = some Try.t22 := by kernel_rfl
theorem info23 : Try.prog.info? 23 = some Try.t23 := by kernel_rfl
theorem info24 : Try.prog.info? 24 = some Try.t24 := by kernel_rfl
theorem info25 : Try.prog.info? 25 = some Try.t25 := by kernel_rfl
theorem info26 : Try.prog.info? 26 = some Try.t26 := by kernel_rfl
theorem info27 : Try.prog.info? 27 = some Try.t27 := by kernel_rfl
theorem info28 : Try.prog.info? 28 = some Try.t28 := by kernel_rfl
theorem info29 : Try.prog.info? 29 = some Try.t29 := by kernel_rfl
theorem info30 : Try.prog.info? 30 = some Try.t30 := by kernel_rfl
theorem info31 : Try.prog.info? 31 = some Try.t31 := by kernel_rfl
theorem info32 : Try.prog.info? 32 = some Try.t32 := by kernel_rfl
theorem info33 : Try.prog.info? 33 = some Try.t33 := by kernel_rfl
theorem info34 : Try.prog.info? 34 = some Try.t34 := by kernel_rfl
theorem info35 : Try.prog.info? 35 = some Try.t35 := by kernel_rfl
theorem info36 : Try.prog.info? 36 = some Try.t36 := by kernel_rfl
theorem info37 : Try.prog.info? 37 = some Try.t37 := by kernel_rfl
theorem info38 : Try.prog.info? 38 = some Try.t38 := by kernel_rfl
theorem info39 : Try.prog.info? 39 = some Try.t39 := by kernel_rfl
theorem info40 : Try.prog.info? 40 = some Try.t40 := by kernel_rfl
theorem info41 : Try.prog.info? 41 = some Try.t41 := by kernel_rfl
theorem info42 : Try.prog.info? 42 = some Try.t42 := by kernel_rfl
theorem info43 : Try.prog.info? 43 = some Try.t43 := by kernel_rfl
theorem info44 : Try.prog.info? 44 = some Try.t44 := by kernel_rfl
theorem info45 : Try.prog.info? 45 = some Try.t45 := by kernel_rfl
theorem info46 : Try.prog.info? 46 = some Try.t46 := by kernel_rfl
theorem info47 : Try.prog.info? 47 = some Try.t47 := by kernel_rfl
theorem info48 : Try.prog.info? 48 = some Try.t48 := by kernel_rfl
theorem info49 : Try.prog.info? 49 = some Try.t49 := by kernel_rfl
theorem info50 : Try.prog.info? 50 = some Try.t50 := by kernel_rfl
theorem info51 : Try.prog.info? 51 = some Try.t51 := by kernel_rfl
theorem info52 : Try.prog.info? 52 = some Try.t52 := by kernel_rfl
theorem info53 : Try.prog.info? 53 = some Try.t53 := by kernel_rfl
theorem info54 : Try.prog.info? 54 = some Try.t54 := by kernel_rfl
theorem info55 : Try.prog.info? 55 = some Try.t55 := by kernel_rfl
theorem info56 : Try.prog.info? 56 = some Try.t56 := by kernel_rfl
theorem info57 : Try.prog.info? 57 = some Try.t57 := by kernel_rfl
theorem info58 : Try.prog.info? 58 = some Try.t58 := by kernel_rfl
theorem info59 : Try.prog.info? 59 = some Try.t59 := by kernel_rfl
theorem info60 : Try.prog.info? 60 = some Try.t60 := by kernel_rfl
theorem info61 : Try.prog.info? 61 = some Try.t61 := by kernel_rfl
theorem info62 : Try.prog.info? 62 = some Try.t62 := by kernel_rfl
theorem info63 : Try.prog.info? 63 = some Try.t63 := by kernel_rfl
theorem info64 : Try.prog.info? 64 = some Try.t64 := by kernel_rfl
theorem info65 : Try.prog.info? 65 = some Try.t65 := by kernel_rfl
theorem info66 : Try.prog.info? 66 = some Try.t66 := by kernel_rfl
theorem info67 : Try.prog.info? 67 = some Try.t67 := by kernel_rfl
theorem info68 : Try.prog.info? 68 = some Try.t68 := by kernel_rfl
theorem info69 : Try.prog.info? 69 = some Try.t69 := by kernel_rfl
theorem info70 : Try.prog.info? 70 = some Try.t70 := by kernel_rfl
theorem info71 : Try.prog.info? 71 = some Try.t71 := by kernel_rfl
theorem info72 : Try.prog.info? 72 = some Try.t72 := by kernel_rfl
theorem info73 : Try.prog.info? 73 = some Try.t73 := by kernel_rfl
theorem info74 : Try.prog.info? 74 = some Try.t74 := by kernel_rfl
theorem info75 : Try.prog.info? 75 = some Try.t75 := by kernel_rfl
theorem info76 : Try.prog.info? 76 = some Try.t76 := by kernel_rfl
theorem info77 : Try.prog.info? 77 = some Try.t77 := by kernel_rfl
theorem info78 : Try.prog.info? 78 = some Try.t78 := by kernel_rfl
theorem info79 : Try.prog.info? 79 = some Try.t79 := by kernel_rfl
theorem info80 : Try.prog.info? 80 = some Try.t80 := by kernel_rfl
theorem info81 : Try.prog.info? 81 = some Try.t81 := by kernel_rfl
theorem info82 : Try.prog.info? 82 = some Try.t82 := by kernel_rfl
theorem info83 : Try.prog.info? 83 = some Try.t83 := by kernel_rfl
theorem info84 : Try.prog.info? 84 = some Try.t84 := by kernel_rfl
theorem info85 : Try.prog.info? 85 = some Try.t85 := by kernel_rfl
theorem info86 : Try.prog.info? 86 = some Try.t86 := by kernel_rfl
theorem info87 : Try.prog.info? 87 = some Try.t87 := by kernel_rfl
theorem info88 : Try.prog.info? 88 = some Try.t88 := by kernel_rfl
theorem info89 : Try.prog.info? 89 = some Try.t89 := by kernel_rfl
theorem info90 : Try.prog.info? 90 = some Try.t90 := by kernel_rfl
theorem info91 : Try.prog.info? 91 = some Try.t91 := by kernel_rfl
theorem info92 : Try.prog.info? 92 = some Try.t92 := by kernel_rfl
theorem info93 : Try.prog.info? 93 = some Try.t93 := by kernel_rfl
theorem info94 : Try.prog.info? 94 = some Try.t94 := by kernel_rfl
theorem info95 : Try.prog.info? 95 = some Try.t95 := by kernel_rfl
theorem info96 : Try.prog.info? 96 = some Try.t96 := by kernel_rfl
theorem info97 : Try.prog.info? 97 = some Try.t97 := by kernel_rfl
theorem info98 : Try.prog.info? 98 = some Try.t98 := by kernel_rfl
theorem info99 : Try.prog.info? 99 = some Try.t99 := by kernel_rfl
theorem info100 : Try.prog.info? 100 = some Try.t100 := by kernel_rfl
theorem info101 : Try.prog.info? 101 = some Try.t101 := by kernel_rfl
theorem info102 : Try.prog.info? 102 = some Try.t102 := by kernel_rfl
theorem info103 : Try.prog.info? 103 = some Try.t103 := by kernel_rfl
theorem info104 : Try.prog.info? 104 = some Try.t104 := by kernel_rfl
theorem info105 : Try.prog.info? 105 = some Try.t105 := by kernel_rfl
theorem info106 : Try.prog.info? 106 = some Try.t106 := by kernel_rfl
theorem info107 : Try.prog.info? 107 = some Try.t107 := by kernel_rfl
theorem info108 : Try.prog.info? 108 = some Try.t108 := by kernel_rfl
theorem info109 : Try.prog.info? 109 = some Try.t109 := by kernel_rfl
theorem info110 : Try.prog.info? 110 = some Try.t110 := by kernel_rfl
theorem info111 : Try.prog.info? 111 = some Try.t111 := by kernel_rfl
theorem info112 : Try.prog.info? 112 = some Try.t112 := by kernel_rfl
theorem info113 : Try.prog.info? 113 = some Try.t113 := by kernel_rfl
theorem info114 : Try.prog.info? 114 = some Try.t114 := by kernel_rfl
theorem info115 : Try.prog.info? 115 = some Try.t115 := by kernel_rfl
theorem info116 : Try.prog.info? 116 = some Try.t116 := by kernel_rfl
theorem info117 : Try.prog.info? 117 = some Try.t117 := by kernel_rfl
theorem info118 : Try.prog.info? 118 = some Try.t118 := by kernel_rfl
theorem info119 : Try.prog.info? 119 = some Try.t119 := by kernel_rfl
theorem info120 : Try.prog.info? 120 = some Try.t120 := by kernel_rfl
theorem info121 : Try.prog.info? 121 = some Try.t121 := by kernel_rfl
theorem info122 : Try.prog.info? 122 = some Try.t122 := by kernel_rfl
theorem info123 : Try.prog.info? 123 = some Try.t123 := by kernel_rfl
theorem info124 : Try.prog.info? 124 = some Try.t124 := by kernel_rfl
theorem info125 : Try.prog.info? 125 = some Try.t125 := by kernel_rfl
theorem info126 : Try.prog.info? 126 = some Try.t126 := by kernel_rfl
theorem info127 : Try.prog.info? 127 = some Try.t127 := by kernel_rfl
theorem info128 : Try.prog.info? 128 = some Try.t128 := by kernel_rfl
theorem info129 : Try.prog.info? 129 = some Try.t129 := by kernel_rfl
theorem info130 : Try.prog.info? 130 = some Try.t130 := by kernel_rfl
theorem info131 : Try.prog.info? 131 = some Try.t131 := by kernel_rfl
theorem info132 : Try.prog.info? 132 = some Try.t132 := by kernel_rfl
theorem info133 : Try.prog.info? 133 = some Try.t133 := by kernel_rfl
theorem info134 : Try.prog.info? 134 = some Try.t134 := by kernel_rfl
theorem info135 : Try.prog.info? 135 = some Try.t135 := by kernel_rfl
theorem info136 : Try.prog.info? 136 = some Try.t136 := by kernel_rfl
theorem info137 : Try.prog.info? 137 = some Try.t137 := by kernel_rfl
theorem info138 : Try.prog.info? 138 = some Try.t138 := by kernel_rfl
theorem info139 : Try.prog.info? 139 = some Try.t139 := by kernel_rfl
theorem info140 : Try.prog.info? 140 = some Try.t140 := by kernel_rfl
theorem info141 : Try.prog.info? 141 = some Try.t141 := by kernel_rfl
theorem info142 : Try.prog.info? 142 = some Try.t142 := by kernel_rfl
theorem info143 : Try.prog.info? 143 = some Try.t143 := by kernel_rfl
theorem info144 : Try.prog.info? 144 = some Try.t144 := by kernel_rfl
theorem info145 : Try.prog.info? 145 = some Try.t145 := by kernel_rfl
theorem info146 : Try.prog.info? 146 = some Try.t146 := by kernel_rfl
theorem info147 : Try.prog.info? 147 = some Try.t147 := by kernel_rfl
theorem info148 : Try.prog.info? 148 = some Try.t148 := by kernel_rfl
theorem info149 : Try.prog.info? 149 = some Try.t149 := by kernel_rfl
theorem info150 : Try.prog.info? 150 = some Try.t150 := by kernel_rfl
theorem info151 : Try.prog.info? 151 = some Try.t151 := by kernel_rfl
theorem info152 : Try.prog.info? 152 = some Try.t152 := by kernel_rfl
theorem info153 : Try.prog.info? 153 = some Try.t153 := by kernel_rfl
theorem info154 : Try.prog.info? 154 = some Try.t154 := by kernel_rfl
theorem info155 : Try.prog.info? 155 = some Try.t155 := by kernel_rfl
theorem info156 : Try.prog.info? 156 = some Try.t156 := by kernel_rfl
theorem info157 : Try.prog.info? 157 = some Try.t157 := by kernel_rfl
theorem info158 : Try.prog.info? 158 = some Try.t158 := by kernel_rfl
theorem info159 : Try.prog.info? 159 = some Try.t159 := by kernel_rfl
theorem info160 : Try.prog.info? 160 = some Try.t160 := by kernel_rfl
theorem info161 : Try.prog.info? 161 = some Try.t161 := by kernel_rfl
theorem info162 : Try.prog.info? 162 = some Try.t162 := by kernel_rfl
theorem info163 : Try.prog.info? 163 = some Try.t163 := by kernel_rfl
theorem info164 : Try.prog.info? 164 = some Try.t164 := by kernel_rfl
theorem info165 : Try.prog.info? 165 = some Try.t165 := by kernel_rfl
theorem info166 : Try.prog.info? 166 = some Try.t166 := by kernel_rfl
theorem info167 : Try.prog.info? 167 = some Try.t167 := by kernel_rfl
theorem info168 : Try.prog.info? 168 = some Try.t168 := by kernel_rfl
theorem info169 : Try.prog.info? 169 = some Try.t169 := by kernel_rfl
theorem info170 : Try.prog.info? 170 = some Try.t170 := by kernel_rfl
theorem info171 : Try.prog.info? 171 = some Try.t171 := by kernel_rfl
theorem info172 : Try.prog.info? 172 = some Try.t172 := by kernel_rfl
theorem info173 : Try.prog.info? 173 = some Try.t173 := by kernel_rfl
theorem info174 : Try.prog.info? 174 = some Try.t174 := by kernel_rfl
theorem info175 : Try.prog.info? 175 = some Try.t175 := by kernel_rfl
theorem info176 : Try.prog.info? 176 = some Try.t176 := by kernel_rfl
theorem info177 : Try.prog.info? 177 = some Try.t177 := by kernel_rfl
theorem info178 : Try.prog.info? 178 = some Try.t178 := by kernel_rfl
theorem info179 : Try.prog.info? 179 = some Try.t179 := by kernel_rfl
theorem info180 : Try.prog.info? 180 = some Try.t180 := by kernel_rfl
theorem info181 : Try.prog.info? 181 = some Try.t181 := by kernel_rfl
theorem info182 : Try.prog.info? 182 = some Try.t182 := by kernel_rfl
theorem info183 : Try.prog.info? 183 = some Try.t183 := by kernel_rfl
theorem info184 : Try.prog.info? 184 = some Try.t184 := by kernel_rfl
theorem info185 : Try.prog.info? 185 = some Try.t185 := by kernel_rfl
theorem info186 : Try.prog.info? 186 = some Try.t186 := by kernel_rfl
theorem info187 : Try.prog.info? 187 = some Try.t187 := by kernel_rfl
theorem info188 : Try.prog.info? 188 = some Try.t188 := by kernel_rfl
theorem info189 : Try.prog.info? 189 = some Try.t189 := by kernel_rfl
theorem info190 : Try.prog.info? 190 = some Try.t190 := by kernel_rfl
theorem info191 : Try.prog.info? 191 = some Try.t191 := by kernel_rfl
theorem info192 : Try.prog.info? 192 = some Try.t192 := by kernel_rfl
theorem info193 : Try.prog.info? 193 = some Try.t193 := by kernel_rfl
theorem info194 : Try.prog.info? 194 = some Try.t194 := by kernel_rfl
theorem info195 : Try.prog.info? 195 = some Try.t195 := by kernel_rfl
theorem info196 : Try.prog.info? 196 = some Try.t196 := by kernel_rfl
theorem info197 : Try.prog.info? 197 = some Try.t197 := by kernel_rfl
theorem info198 : Try.prog.info? 198 = some Try.t198 := by kernel_rfl
theorem info199 : Try.prog.info? 199 = some Try.t199 := by kernel_rfl
theorem info200 : Try.prog.info? 200 = some Try.t200 := by kernel_rfl
theorem info201 : Try.prog.info? 201 = some Try.t201 := by kernel_rfl
theorem info202 : Try.prog.info? 202 = some Try.t202 := by kernel_rfl
theorem info203 : Try.prog.info? 203 = some Try.t203 := by kernel_rfl
theorem info204 : Try.prog.info? 204 = some Try.t204 := by kernel_rfl
theorem info205 : Try.prog.info? 205 = some Try.t205 := by kernel_rfl
theorem info206 : Try.prog.info? 206 = some Try.t206 := by kernel_rfl
theorem info207 : Try.prog.info? 207 = some Try.t207 := by kernel_rfl
theorem info208 : Try.prog.info? 208 = some Try.t208 := by kernel_rfl
theorem info209 : Try.prog.info? 209 = some Try.t209 := by kernel_rfl
theorem info210 : Try.prog.info? 210 = some Try.t210 := by kernel_rfl
theorem info211 : Try.prog.info? 211 = some Try.t211 := by kernel_rfl
theorem info212 : Try.prog.info? 212 = some Try.t212 := by kernel_rfl
theorem info213 : Try.prog.info? 213 = some Try.t213 := by kernel_rfl
theorem info214 : Try.prog.info? 214 = some Try.t214 := by kernel_rfl
theorem info215 : Try.prog.info? 215 = some Try.t215 := by kernel_rfl
theorem info216 : Try.prog.info? 216 = some Try.t216 := by kernel_rfl
theorem info217 : Try.prog.info? 217 = some Try.t217 := by kernel_rfl
theorem info218 : Try.prog.info? 218 = some Try.t218 := by kernel_rfl
theorem info219 : Try.prog.info? 219 = some Try.t219 := by kernel_rfl
theorem info220 : Try.prog.info? 220 = some Try.t220 := by kernel_rfl
theorem info221 : Try.prog.info? 221 = some Try.t221 := by kernel_rfl
theorem info222 : Try.prog.info? 222 = some Try.t222 := by kernel_rfl
theorem info223 : Try.prog.info? 223 = some Try.t223 := by kernel_rfl
theorem info224 : Try.prog.info? 224 = some Try.t224 := by kernel_rfl
theorem info225 : Try.prog.info? 225 = some Try.t225 := by kernel_rfl
theorem info226 : Try.prog.info? 226 = some Try.t226 := by kernel_rfl
theorem info227 : Try.prog.info? 227 = some Try.t227 := by kernel_rfl
theorem info228 : Try.prog.info? 228 = some Try.t228 := by kernel_rfl
theorem info229 : Try.prog.info? 229 = some Try.t229 := by kernel_rfl
theorem info230 : Try.prog.info? 230 = some Try.t230 := by kernel_rfl
theorem info231 : Try.prog.info? 231 = some Try.t231 := by kernel_rfl
theorem info232 : Try.prog.info? 232 = some Try.t232 := by kernel_rfl
theorem info233 : Try.prog.info? 233 = some Try.t233 := by kernel_rfl
theorem info234 : Try.prog.info? 234 = some Try.t234 := by kernel_rfl
theorem info235 : Try.prog.info? 235 = some Try.t235 := by kernel_rfl
theorem info236 : Try.prog.info? 236 = some Try.t236 := by kernel_rfl
theorem info237 : Try.prog.info? 237 = some Try.t237 := by kernel_rfl
theorem info238 : Try.prog.info? 238 = some Try.t238 := by kernel_rfl
theorem info239 : Try.prog.info? 239 = some Try.t239 := by kernel_rfl
theorem info240 : Try.prog.info? 240 = some Try.t240 := by kernel_rfl
theorem info241 : Try.prog.info? 241 = some Try.t241 := by kernel_rfl
theorem info242 : Try.prog.info? 242 = some Try.t242 := by kernel_rfl
theorem info243 : Try.prog.info? 243 = some Try.t243 := by kernel_rfl
theorem info244 : Try.prog.info? 244 = some Try.t244 := by kernel_rfl
theorem info245 : Try.prog.info? 245 = some Try.t245 := by kernel_rfl
theorem info246 : Try.prog.info? 246 = some Try.t246 := by kernel_rfl
theorem info247 : Try.prog.info? 247 = some Try.t247 := by kernel_rfl
theorem info248 : Try.prog.info? 248 = some Try.t248 := by kernel_rfl
theorem info249 : Try.prog.info? 249 = some Try.t249 := by kernel_rfl
theorem info250 : Try.prog.info? 250 = some Try.t250 := by kernel_rfl
theorem info251 : Try.prog.info? 251 = some Try.t251 := by kernel_rfl
theorem info252 : Try.prog.info? 252 = some Try.t252 := by kernel_rfl
theorem info253 : Try.prog.info? 253 = some Try.t253 := by kernel_rfl
theorem info254 : Try.prog.info? 254 = some Try.t254 := by kernel_rfl
theorem body2 : (cP Try.prog).bodies 2 = true := cx_bodies Try.func2 (by kernel_rfl)
theorem body3 : (cP Try.prog).bodies 3 = true := cx_bodies Try.func3 (by kernel_rfl)
theorem body4 : (cP Try.prog).bodies 4 = true := cx_bodies Try.func4 (by kernel_rfl)
theorem body5 : (cP Try.prog).bodies 5 = true := cx_bodies Try.func5 (by kernel_rfl)
theorem body6 : (cP Try.prog).bodies 6 = true := cx_bodies Try.func6 (by kernel_rfl)
theorem body7 : (cP Try.prog).bodies 7 = true := cx_bodies Try.func7 (by kernel_rfl)
theorem body8 : (cP Try.prog).bodies 8 = true := cx_bodies Try.func8 (by kernel_rfl)
theorem body9 : (cP Try.prog).bodies 9 = true := cx_bodies Try.func9 (by kernel_rfl)
theorem body10 : (cP Try.prog).bodies 10 = true := cx_bodies Try.func10 (by kernel_rfl)
theorem body11 : (cP Try.prog).bodies 11 = true := cx_bodies Try.func11 (by kernel_rfl)
theorem body12 : (cP Try.prog).bodies 12 = true := cx_bodies Try.func12 (by kernel_rfl)
theorem body13 : (cP Try.prog).bodies 13 = true := cx_bodies Try.func13 (by kernel_rfl)
theorem body14 : (cP Try.prog).bodies 14 = true := cx_bodies Try.func14 (by kernel_rfl)
theorem body15 : (cP Try.prog).bodies 15 = true := cx_bodies Try.func15 (by kernel_rfl)
theorem body16 : (cP Try.prog).bodies 16 = true := cx_bodies Try.func16 (by kernel_rfl)
theorem body17 : (cP Try.prog).bodies 17 = true := cx_bodies Try.func17 (by kernel_rfl)
theorem body18 : (cP Try.prog).bodies 18 = true := cx_bodies Try.func18 (by kernel_rfl)
theorem body19 : (cP Try.prog).bodies 19 = true := cx_bodies Try.func19 (by kernel_rfl)
theorem body20 : (cP Try.prog).bodies 20 = true := cx_bodies Try.func20 (by kernel_rfl)
theorem body21 : (cP Try.prog).bodies 21 = true := cx_bodies Try.func21 (by kernel_rfl)
theorem body22 : (cP Try.prog).bodies 22 = true := cx_bodies Try.func22 (by kernel_rfl)
theorem body23 : (cP Try.prog).bodies 23 = true := cx_bodies Try.func23 (by kernel_rfl)
theorem body24 : (cP Try.prog).bodies 24 = true := cx_bodies Try.func24 (by kernel_rfl)
theorem body25 : (cP Try.prog).bodies 25 = true := cx_bodies Try.func25 (by kernel_rfl)
theorem body26 : (cP Try.prog).bodies 26 = true := cx_bodies Try.func26 (by kernel_rfl)
theorem body27 : (cP Try.prog).bodies 27 = true := cx_bodies Try.func27 (by kernel_rfl)
theorem body28 : (cP Try.prog).bodies 28 = true := cx_bodies Try.func28 (by kernel_rfl)
theorem body29 : (cP Try.prog).bodies 29 = true := cx_bodies Try.func29 (by kernel_rfl)
theorem body30 : (cP Try.prog).bodies 30 = true := cx_bodies Try.func30 (by kernel_rfl)
theorem body31 : (cP Try.prog).bodies 31 = true := cx_bodies Try.func31 (by kernel_rfl)
theorem body32 : (cP Try.prog).bodies 32 = true := cx_bodies Try.func32 (by kernel_rfl)
theorem body33 : (cP Try.prog).bodies 33 = true := cx_bodies Try.func33 (by kernel_rfl)
theorem body34 : (cP Try.prog).bodies 34 = true := cx_bodies Try.func34 (by kernel_rfl)
theorem body35 : (cP Try.prog).bodies 35 = true := cx_bodies Try.func35 (by kernel_rfl)
theorem body36 : (cP Try.prog).bodies 36 = true := cx_bodies Try.func36 (by kernel_rfl)
theorem body37 : (cP Try.prog).bodies 37 = true := cx_bodies Try.func37 (by kernel_rfl)
theorem body38 : (cP Try.prog).bodies 38 = true := cx_bodies Try.func38 (by kernel_rfl)
theorem body39 : (cP Try.prog).bodies 39 = true := cx_bodies Try.func39 (by kernel_rfl)
theorem body40 : (cP Try.prog).bodies 40 = true := cx_bodies Try.func40 (by kernel_rfl)
theorem body41 : (cP Try.prog).bodies 41 = true := cx_bodies Try.func41 (by kernel_rfl)
theorem body42 : (cP Try.prog).bodies 42 = true := cx_bodies Try.func42 (by kernel_rfl)
theorem body43 : (cP Try.prog).bodies 43 = true := cx_bodies Try.func43 (by kernel_rfl)
theorem body44 : (cP Try.prog).bodies 44 = true := cx_bodies Try.func44 (by kernel_rfl)
theorem body45 : (cP Try.prog).bodies 45 = true := cx_bodies Try.func45 (by kernel_rfl)
theorem body46 : (cP Try.prog).bodies 46 = true := cx_bodies Try.func46 (by kernel_rfl)
theorem body47 : (cP Try.prog).bodies 47 = true := cx_bodies Try.func47 (by kernel_rfl)
theorem body48 : (cP Try.prog).bodies 48 = true := cx_bodies Try.func48 (by kernel_rfl)
theorem body49 : (cP Try.prog).bodies 49 = true := cx_bodies Try.func49 (by kernel_rfl)
theorem body50 : (cP Try.prog).bodies 50 = true := cx_bodies Try.func50 (by kernel_rfl)
theorem body51 : (cP Try.prog).bodies 51 = true := cx_bodies Try.func51 (by kernel_rfl)
theorem body52 : (cP Try.prog).bodies 52 = true := cx_bodies Try.func52 (by kernel_rfl)
theorem body53 : (cP Try.prog).bodies 53 = true := cx_bodies Try.func53 (by kernel_rfl)
theorem body54 : (cP Try.prog).bodies 54 = true := cx_bodies Try.func54 (by kernel_rfl)
theorem body55 : (cP Try.prog).bodies 55 = true := cx_bodies Try.func55 (by kernel_rfl)
theorem body56 : (cP Try.prog).bodies 56 = true := cx_bodies Try.func56 (by kernel_rfl)
theorem body57 : (cP Try.prog).bodies 57 = true := cx_bodies Try.func57 (by kernel_rfl)
theorem body58 : (cP Try.prog).bodies 58 = true := cx_bodies Try.func58 (by kernel_rfl)
theorem body59 : (cP Try.prog).bodies 59 = true := cx_bodies Try.func59 (by kernel_rfl)
theorem body60 : (cP Try.prog).bodies 60 = true := cx_bodies Try.func60 (by kernel_rfl)
theorem body61 : (cP Try.prog).bodies 61 = true := cx_bodies Try.func61 (by kernel_rfl)
theorem body62 : (cP Try.prog).bodies 62 = true := cx_bodies Try.func62 (by kernel_rfl)
theorem body63 : (cP Try.prog).bodies 63 = true := cx_bodies Try.func63 (by kernel_rfl)
theorem body64 : (cP Try.prog).bodies 64 = true := cx_bodies Try.func64 (by kernel_rfl)
theorem body65 : (cP Try.prog).bodies 65 = true := cx_bodies Try.func65 (by kernel_rfl)
theorem body66 : (cP Try.prog).bodies 66 = true := cx_bodies Try.func66 (by kernel_rfl)
theorem body67 : (cP Try.prog).bodies 67 = true := cx_bodies Try.func67 (by kernel_rfl)
theorem body68 : (cP Try.prog).bodies 68 = true := cx_bodies Try.func68 (by kernel_rfl)
theorem body69 : (cP Try.prog).bodies 69 = true := cx_bodies Try.func69 (by kernel_rfl)
theorem body70 : (cP Try.prog).bodies 70 = true := cx_bodies Try.func70 (by kernel_rfl)
theorem body71 : (cP Try.prog).bodies 71 = true := cx_bodies Try.func71 (by kernel_rfl)
theorem body72 : (cP Try.prog).bodies 72 = true := cx_bodies Try.func72 (by kernel_rfl)
theorem body73 : (cP Try.prog).bodies 73 = true := cx_bodies Try.func73 (by kernel_rfl)
theorem body74 : (cP Try.prog).bodies 74 = true := cx_bodies Try.func74 (by kernel_rfl)
theorem body75 : (cP Try.prog).bodies 75 = true := cx_bodies Try.func75 (by kernel_rfl)
theorem body76 : (cP Try.prog).bodies 76 = true := cx_bodies Try.func76 (by kernel_rfl)
theorem body77 : (cP Try.prog).bodies 77 = true := cx_bodies Try.func77 (by kernel_rfl)
theorem body78 : (cP Try.prog).bodies 78 = true := cx_bodies Try.func78 (by kernel_rfl)
theorem body79 : (cP Try.prog).bodies 79 = true := cx_bodies Try.func79 (by kernel_rfl)
theorem body80 : (cP Try.prog).bodies 80 = true := cx_bodies Try.func80 (by kernel_rfl)
theorem body81 : (cP Try.prog).bodies 81 = true := cx_bodies Try.func81 (by kernel_rfl)
theorem body82 : (cP Try.prog).bodies 82 = true := cx_bodies Try.func82 (by kernel_rfl)
theorem body83 : (cP Try.prog).bodies 83 = true := cx_bodies Try.func83 (by kernel_rfl)
theorem body84 : (cP Try.prog).bodies 84 = true := cx_bodies Try.func84 (by kernel_rfl)
theorem body85 : (cP Try.prog).bodies 85 = true := cx_bodies Try.func85 (by kernel_rfl)
theorem body86 : (cP Try.prog).bodies 86 = true := cx_bodies Try.func86 (by kernel_rfl)
theorem body87 : (cP Try.prog).bodies 87 = true := cx_bodies Try.func87 (by kernel_rfl)
theorem body88 : (cP Try.prog).bodies 88 = true := cx_bodies Try.func88 (by kernel_rfl)
theorem body89 : (cP Try.prog).bodies 89 = true := cx_bodies Try.func89 (by kernel_rfl)
theorem body90 : (cP Try.prog).bodies 90 = true := cx_bodies Try.func90 (by kernel_rfl)
theorem body91 : (cP Try.prog).bodies 91 = true := cx_bodies Try.func91 (by kernel_rfl)
theorem body92 : (cP Try.prog).bodies 92 = true := cx_bodies Try.func92 (by kernel_rfl)
theorem body93 : (cP Try.prog).bodies 93 = true := cx_bodies Try.func93 (by kernel_rfl)
theorem body94 : (cP Try.prog).bodies 94 = true := cx_bodies Try.func94 (by kernel_rfl)
theorem body95 : (cP Try.prog).bodies 95 = true := cx_bodies Try.func95 (by kernel_rfl)
theorem body96 : (cP Try.prog).bodies 96 = true := cx_bodies Try.func96 (by kernel_rfl)
theorem body97 : (cP Try.prog).bodies 97 = true := cx_bodies Try.func97 (by kernel_rfl)
theorem body98 : (cP Try.prog).bodies 98 = true := cx_bodies Try.func98 (by kernel_rfl)
theorem body99 : (cP Try.prog).bodies 99 = true := cx_bodies Try.func99 (by kernel_rfl)
theorem body100 : (cP Try.prog).bodies 100 = true := cx_bodies Try.func100 (by kernel_rfl)
theorem body101 : (cP Try.prog).bodies 101 = true := cx_bodies Try.func101 (by kernel_rfl)
theorem body102 : (cP Try.prog).bodies 102 = true := cx_bodies Try.func102 (by kernel_rfl)
theorem body103 : (cP Try.prog).bodies 103 = true := cx_bodies Try.func103 (by kernel_rfl)
theorem body104 : (cP Try.prog).bodies 104 = true := cx_bodies Try.func104 (by kernel_rfl)
theorem body105 : (cP Try.prog).bodies 105 = true := cx_bodies Try.func105 (by kernel_rfl)
theorem body106 : (cP Try.prog).bodies 106 = true := cx_bodies Try.func106 (by kernel_rfl)
theorem body107 : (cP Try.prog).bodies 107 = true := cx_bodies Try.func107 (by kernel_rfl)
theorem body108 : (cP Try.prog).bodies 108 = true := cx_bodies Try.func108 (by kernel_rfl)
theorem body110 : (cP Try.prog).bodies 110 = true := cx_bodies Try.func110 (by kernel_rfl)
theorem body111 : (cP Try.prog).bodies 111 = true := cx_bodies Try.func111 (by kernel_rfl)
theorem body112 : (cP Try.prog).bodies 112 = true := cx_bodies Try.func112 (by kernel_rfl)
theorem body113 : (cP Try.prog).bodies 113 = true := cx_bodies Try.func113 (by kernel_rfl)
theorem body114 : (cP Try.prog).bodies 114 = true := cx_bodies Try.func114 (by kernel_rfl)
theorem body115 : (cP Try.prog).bodies 115 = true := cx_bodies Try.func115 (by kernel_rfl)
theorem body116 : (cP Try.prog).bodies 116 = true := cx_bodies Try.func116 (by kernel_rfl)
theorem body117 : (cP Try.prog).bodies 117 = true := cx_bodies Try.func117 (by kernel_rfl)
theorem body118 : (cP Try.prog).bodies 118 = true := cx_bodies Try.func118 (by kernel_rfl)
theorem body119 : (cP Try.prog).bodies 119 = true := cx_bodies Try.func119 (by kernel_rfl)
theorem body120 : (cP Try.prog).bodies 120 = true := cx_bodies Try.func120 (by kernel_rfl)
theorem body121 : (cP Try.prog).bodies 121 = true := cx_bodies Try.func121 (by kernel_rfl)
theorem body122 : (cP Try.prog).bodies 122 = true := cx_bodies Try.func122 (by kernel_rfl)
theorem body123 : (cP Try.prog).bodies 123 = true := cx_bodies Try.func123 (by kernel_rfl)
theorem body124 : (cP Try.prog).bodies 124 = true := cx_bodies Try.func124 (by kernel_rfl)
theorem body125 : (cP Try.prog).bodies 125 = true := cx_bodies Try.func125 (by kernel_rfl)
theorem body126 : (cP Try.prog).bodies 126 = true := cx_bodies Try.func126 (by kernel_rfl)
theorem body127 : (cP Try.prog).bodies 127 = true := cx_bodies Try.func127 (by kernel_rfl)
theorem body128 : (cP Try.prog).bodies 128 = true := cx_bodies Try.func128 (by kernel_rfl)
theorem body129 : (cP Try.prog).bodies 129 = true := cx_bodies Try.func129 (by kernel_rfl)
theorem body130 : (cP Try.prog).bodies 130 = true := cx_bodies Try.func130 (by kernel_rfl)
theorem body131 : (cP Try.prog).bodies 131 = true := cx_bodies Try.func131 (by kernel_rfl)
theorem body132 : (cP Try.prog).bodies 132 = true := cx_bodies Try.func132 (by kernel_rfl)
theorem body133 : (cP Try.prog).bodies 133 = true := cx_bodies Try.func133 (by kernel_rfl)
theorem body134 : (cP Try.prog).bodies 134 = true := cx_bodies Try.func134 (by kernel_rfl)
theorem body135 : (cP Try.prog).bodies 135 = true := cx_bodies Try.func135 (by kernel_rfl)
theorem body136 : (cP Try.prog).bodies 136 = true := cx_bodies Try.func136 (by kernel_rfl)
theorem body137 : (cP Try.prog).bodies 137 = true := cx_bodies Try.func137 (by kernel_rfl)
theorem body138 : (cP Try.prog).bodies 138 = true := cx_bodies Try.func138 (by kernel_rfl)
theorem body139 : (cP Try.prog).bodies 139 = true := cx_bodies Try.func139 (by kernel_rfl)
theorem body140 : (cP Try.prog).bodies 140 = true := cx_bodies Try.func140 (by kernel_rfl)
theorem body141 : (cP Try.prog).bodies 141 = true := cx_bodies Try.func141 (by kernel_rfl)
theorem body144 : (cP Try.prog).bodies 144 = true := cx_bodies Try.func144 (by kernel_rfl)
theorem body145 : (cP Try.prog).bodies 145 = true := cx_bodies Try.func145 (by kernel_rfl)
theorem body146 : (cP Try.prog).bodies 146 = true := cx_bodies Try.func146 (by kernel_rfl)
theorem body147 : (cP Try.prog).bodies 147 = true := cx_bodies Try.func147 (by kernel_rfl)
theorem body148 : (cP Try.prog).bodies 148 = true := cx_bodies Try.func148 (by kernel_rfl)
theorem body149 : (cP Try.prog).bodies 149 = true := cx_bodies Try.func149 (by kernel_rfl)
theorem body150 : (cP Try.prog).bodies 150 = true := cx_bodies Try.func150 (by kernel_rfl)
theorem body151 : (cP Try.prog).bodies 151 = true := cx_bodies Try.func151 (by kernel_rfl)
theorem body152 : (cP Try.prog).bodies 152 = true := cx_bodies Try.func152 (by kernel_rfl)
theorem body153 : (cP Try.prog).bodies 153 = true := cx_bodies Try.func153 (by kernel_rfl)
theorem body154 : (cP Try.prog).bodies 154 = true := cx_bodies Try.func154 (by kernel_rfl)
theorem body155 : (cP Try.prog).bodies 155 = true := cx_bodies Try.func155 (by kernel_rfl)
theorem body156 : (cP Try.prog).bodies 156 = true := cx_bodies Try.func156 (by kernel_rfl)
theorem body157 : (cP Try.prog).bodies 157 = true := cx_bodies Try.func157 (by kernel_rfl)
theorem body158 : (cP Try.prog).bodies 158 = true := cx_bodies Try.func158 (by kernel_rfl)

end Go.Ab
